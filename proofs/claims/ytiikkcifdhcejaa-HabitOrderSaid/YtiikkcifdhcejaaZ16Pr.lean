/- XPlan's law for a region within a round of a range over a function. -/
import Derived.Test.YtiikkcifdhcejaaPlan
import Derived.Test.YtiikkcifdhcejaaZ00Mem
import Derived.Test.YtiikkcifdhcejaaZ09Gv
import Derived.Test.YtiikkcifdhcejaaZ02Go
import Derived.Test.YtiikkcifdhcejaaZ06Pg
import Derived.Deep.DeepCutAuto
import Derived.Test.YtiikkcifdhcejaaZ07Gg
import Derived.Test.YtiikkcifdhcejaaZ05Pm
namespace Go.Proofs.Ytiikkcifdhcejaa
open Go.RowKit

theorem Oper.wpIn_of_wp {P : Program} {l n : Nat} {o : Oper} {a : Act} {w : World} {K K' : Act → World → Prop} {Q Q' : Exit → Act → World → Prop} (hnd : ∀ c, o.op ≠ .defer c)
    (hQ : ∀ e a w, Q e a w → e = .normal) (hK : ∀ a w, K a w → K' a w) (h : o.wp P a w K Q) : o.wpIn (Fence.wide.inRound l) n P a w K' Q' := by
  unfold Oper.wp at h
  unfold Oper.wpIn
  refine ⟨fun _ _ => trivial, ?_⟩
  rw [Oper.semAt_eq _ _ _ hnd]
  cases hr : (execOp a.eval o).run P w with
  | halt x w' =>
    rw [hr] at h
    cases x <;> first
      | exact h.elim
      | exact absurd (hQ _ _ _ h) (by intro e; cases e)
  | ok x w' =>
    rw [hr] at h
    cases x <;> first
      | exact h.elim
      | exact hK _ _ h
      | (refine ⟨(fun hd => by cases hd), CallsIn.inRound l ((callsIn_wide.2 h).mono ?_)⟩
         rintro e w'' he
         cases e with
         | returned v => exact hK _ _ he
         | panicked c => exact absurd (hQ _ _ _ he) (by intro e; cases e)
         | outgrown => obtain ⟨a, w, he⟩ := he; exact absurd (hQ _ _ _ he) (by intro e; cases e))
      | (refine ⟨(fun hd => by cases hd), fun c cs _ => ?_⟩
         obtain ⟨v, w'', h1, h2⟩ := h c cs
         exact ⟨v, w'', hK _ _ h1, stepsIn_wide.2 h2⟩)
theorem wpAnyIn_of_wpAny {P : Program} {l n : Nat} {md : Region.Mode} {ops : Array Oper} {Q Q' : Exit → Act → World → Prop} (hnd : noDefer ops = true) (hQ : ∀ e a w, Q e a w → e = .normal ∧ Q' .normal a w) :
    ∀ (fuel : Nat) (listed : Array Bool) (a : Act) (w : World), wpAny P md ops Q fuel listed a w → wpAnyIn (Fence.wide.inRound l) n P md ops Q' fuel listed a w
  | 0, _, a, w, h => ⟨h.1, (hQ _ _ _ h.2).2⟩
  | fuel + 1, listed, a, w, h => ⟨fun hr => (hQ _ _ _ (h.1 hr)).2, fun i hi => by
      have hq := h.2 i hi
      have ih := wpAnyIn_of_wpAny (P := P) (l := l) (n := n) (md := md) hnd hQ fuel (listed.setIfInBounds i true)
      unfold wpOp at hq
      unfold wpOpIn
      cases ho : ops[i]? with
      | none => simp only [ho] at hq ⊢; exact ih a w hq
      | some o =>
        simp only [ho] at hq ⊢
        split
        · rename_i hw; simp only [hw, if_true] at hq
          rcases hq with hq | ⟨-, a9, w9, hq⟩
          · exact Oper.wpIn_of_wp (noDefer_spec hnd ho) (fun e a w h => (hQ e a w h).1) (fun a' w' hk => ih a' w' hk) hq
          · exact absurd (hQ _ _ _ hq).1 (by intro e; cases e)
        · rename_i hw; simp only [hw] at hq
          exact ⟨fun _ _ => trivial, ih _ w hq⟩⟩
theorem wpIn_region_plan {P : Program} {lp n : Nat} {id : Nat} {Q : Exit → Act → World → Prop} {a : Act} {w : World} {l : List Oper} (s : Nat) (La : List Nat) (ks : List PKind) (fs : List Fact) {os : Oper} (hos : l[s]? = some os) (Ls As : List (Nat × Tmp))
    (hm : P.follows .mixedOrders = true) (hsel : Region.noSelect l.toArray = true) (hnd : noDefer l.toArray = true) (hd : dstsB l.toArray = true) (hb : backB l.toArray = true) (hks : kindsB l.toArray s La ks = true) (hpath : pathB l.toArray [s] La = true) (hLs : lookB l.toArray os Ls = true)
    (hAs : (allIdx l.toArray l.length == As) = true) (hfl : (fs.length == l.length) = true) (hfs : pickF fs s = noF)
    (hp : planAll P l.toArray fs (fun W => Below w.heap.size w W) a ks l fs)
    (hend : ∀ xs W, Below w.heap.size w W → factsA xs W 0 fs → opV P l.toArray os (putL xs a Ls) W fun v W' => Q .normal (putL (upd xs s v) a As) W') (hst : staysA fs) : (Code.region id l.toArray true).wpIn (Fence.wide.inRound lp) n P Q a w := by
  have hA : allIdx l.toArray l.length = As := by simpa using hAs
  have hF : fs.length = l.length := by simpa using hfl
  have hss := (Array.getElem?_eq_some_iff.1 (show l.toArray[s]? = some os by simpa using hos)).1
  refine wpIn_region_any hm ?_
  refine wpAnyIn_of_wpAny (Q := fun e a w => e = .normal ∧ Q .normal a w) hnd (fun e a w h => h) _ _ _ _ ?_
  have h := wpAny_plan (Q := fun e a w => e = .normal ∧ Q .normal a w) (C := fun W => Below w.heap.size w W) hsel (dsts_spec hd) hb hst (fun W W' h1 h2 => h1.trans (h2.mono h1.size)) hks hpath (by simpa using hos) hfs (fun _ _ _ _ _ h => by cases h.1) (by simpa using hp) Ls hLs (fun xs W h1 h2 => by
      have h3 := hend xs W h1 (factsA_of fs 0 fun j => by
        rw [Nat.zero_add]
        by_cases hj : j < l.length
        · by_cases hjs : j = s
          · subst hjs; rw [hfs]; trivial
          · exact h2 j (by simpa using hj) hjs
        · rw [pick_out fs j (by omega)]; trivial)
      simp only [putsF_putL, List.size_toArray, hA, true_and]
      exact h3)
    l.toArray.size (Array.replicate l.toArray.size false) (fun k => slotOf a ((l.toArray[k]?).bind (·.dst))) w.drew
    ⟨by simp, fun j o _ hl => (by rw [getD_replicate_false] at hl; cases hl), (Below.refl _ w).drew, fun j hj => (by rw [getD_replicate_false] at hj; cases hj)⟩
    (getD_in (by simpa using hss) (getD_replicate_false _ _)) openL_none
  rw [putsF_self] at h
  exact h
theorem wpIn_region_planE {P : Program} {lp n : Nat} {id : Nat} {Q : Exit → Act → World → Prop} {a : Act} {w : World} {l : List Oper} (ks : List PKind) (fs : List Fact) (As : List (Nat × Tmp))
    (hm : P.follows .mixedOrders = true) (hsel : Region.noSelect l.toArray = true) (hnd : noDefer l.toArray = true) (hd : dstsB l.toArray = true) (hb : backB l.toArray = true) (hks : effB ks = true)
    (hAs : (allIdx l.toArray l.length == As) = true) (hfl : (fs.length == l.length) = true)
    (hp : planAll P l.toArray fs (fun W => Below w.heap.size w W) a ks l fs)
    (hend : ∀ xs W, Below w.heap.size w W → factsA xs W 0 fs → Q .normal (putL xs a As) W) (hst : staysA fs) : (Code.region id l.toArray true).wpIn (Fence.wide.inRound lp) n P Q a w := by
  have hA : allIdx l.toArray l.length = As := by simpa using hAs
  have hF : fs.length = l.length := by simpa using hfl
  refine wpIn_region_any hm ?_
  refine wpAnyIn_of_wpAny (Q := fun e a w => e = .normal ∧ Q .normal a w) hnd (fun e a w h => h) _ _ _ _ ?_
  have h := wpAny_planE (Q := fun e a w => e = .normal ∧ Q .normal a w) (C := fun W => Below w.heap.size w W) hsel (dsts_spec hd) hb hst (fun W W' h1 h2 => h1.trans (h2.mono h1.size)) hks (by simpa using hp) (fun xs W h1 h2 => by
      have h3 := hend xs W h1 (factsA_of fs 0 fun j => by
        rw [Nat.zero_add]
        by_cases hj : j < l.length
        · exact h2 j (by simpa using hj)
        · rw [pick_out fs j (by omega)]; trivial)
      exact ⟨rfl, by simpa only [putsF_putL, List.size_toArray, hA] using h3⟩)
    l.toArray.size (Array.replicate l.toArray.size false) (fun k => slotOf a ((l.toArray[k]?).bind (·.dst))) w.drew
    ⟨by simp, fun j o _ hl => (by rw [getD_replicate_false] at hl; cases hl), (Below.refl _ w).drew, fun j hj => (by rw [getD_replicate_false] at hj; cases hj)⟩ openL_none
  rw [putsF_self] at h
  exact h
end Go.Proofs.Ytiikkcifdhcejaa
namespace Go.Proofs.Ytiikkcifdhcejaa
open Go.RowKit

theorem ent_isCh1 : Ent 89 := ent_of Try.func89 (by kernel_rfl) rfl
set_option maxRecDepth 100000 in
set_option maxHeartbeats 1000000 in
theorem isCh1_any (n d : Int) (W : World) : Calls Try.prog 89 (#[.agg #[.int .i64 n, .int .i64 d]] ++ #[]) W fun e W' => e = .returned (.bool (badC ⟨n, d⟩)) ∧ Below W.heap.size W W' := by
  by_cases h1 : d < 1
  · have HT : Hid (badC ⟨n, d⟩ = true) := (by simp [badC, okC]; omega : badC ⟨n, d⟩ = true)
    have t1 : decide (d < 1) = true := by simpa using h1
    go_enter Try.func89, Try.ntmps89
    go_wp2
    go_ret
    exact ⟨ret_bool HT.out.symm, by (repeat (first | exact Below.refl _ _ | assumption | (refine Below.alloc ?_ (by first | omega | (simp; omega) | (simp; done)) _) | (refine Below.setCell ?_ (by first | omega | (simp; omega) | (simp; done)) _) | (refine Below.drew ?_) | (refine belowN ?_ _) | (refine Below.trans ?_ (Below.mono ‹Below _ _ _› (by first | omega | (simp; omega) | (simp; done))))))⟩
  · have t1 : decide (d < 1) = false := by simpa using h1
    by_cases h2 : 1000000000000000 < d
    · have HT : Hid (badC ⟨n, d⟩ = true) := (by simp [badC, okC]; omega : badC ⟨n, d⟩ = true)
      have t2 : decide (1000000000000000 < d) = true := by simpa using h2
      go_enter Try.func89, Try.ntmps89
      go_wp2
      go_ret
      exact ⟨ret_bool HT.out.symm, by (repeat (first | exact Below.refl _ _ | assumption | (refine Below.alloc ?_ (by first | omega | (simp; omega) | (simp; done)) _) | (refine Below.setCell ?_ (by first | omega | (simp; omega) | (simp; done)) _) | (refine Below.drew ?_) | (refine belowN ?_ _) | (refine Below.trans ?_ (Below.mono ‹Below _ _ _› (by first | omega | (simp; omega) | (simp; done))))))⟩
    · have t2 : decide (1000000000000000 < d) = false := by simpa using h2
      by_cases h3 : n < 0
      · have HT : Hid (badC ⟨n, d⟩ = true) := (by simp [badC, okC]; omega : badC ⟨n, d⟩ = true)
        have t3 : decide (n < 0) = true := by simpa using h3
        go_enter Try.func89, Try.ntmps89
        go_wp2
        go_ret
        exact ⟨ret_bool HT.out.symm, by (repeat (first | exact Below.refl _ _ | assumption | (refine Below.alloc ?_ (by first | omega | (simp; omega) | (simp; done)) _) | (refine Below.setCell ?_ (by first | omega | (simp; omega) | (simp; done)) _) | (refine Below.drew ?_) | (refine belowN ?_ _) | (refine Below.trans ?_ (Below.mono ‹Below _ _ _› (by first | omega | (simp; omega) | (simp; done))))))⟩
      · have t3 : decide (n < 0) = false := by simpa using h3
        by_cases h4 : d < n
        · have HT : Hid (badC ⟨n, d⟩ = true) := (by simp [badC, okC]; omega : badC ⟨n, d⟩ = true)
          have t4 : decide (d < n) = true := by simpa using h4
          go_enter Try.func89, Try.ntmps89
          go_wp2
          go_ret
          exact ⟨ret_bool HT.out.symm, by (repeat (first | exact Below.refl _ _ | assumption | (refine Below.alloc ?_ (by first | omega | (simp; omega) | (simp; done)) _) | (refine Below.setCell ?_ (by first | omega | (simp; omega) | (simp; done)) _) | (refine Below.drew ?_) | (refine belowN ?_ _) | (refine Below.trans ?_ (Below.mono ‹Below _ _ _› (by first | omega | (simp; omega) | (simp; done))))))⟩
        · have t4 : decide (d < n) = false := by simpa using h4
          have HT : Hid (badC ⟨n, d⟩ = (gI n d != 1)) := (by
            have e : okC ⟨n, d⟩ = decide (gI n d = 1) := by simp [okC]; omega
            rw [badC, e]; simp only [bne]; rfl : badC ⟨n, d⟩ = (gI n d != 1))
          have HG := Lib.hid (fun W b h => gcd2_any n d W b h (by omega) (by omega) (by omega) (by omega))
          obtain ⟨g, hg⟩ : ∃ g, g = gI n d := ⟨_, rfl⟩
          rw [← hg] at HG HT
          clear hg h1 h2 h3 h4
          go_enter Try.func89, Try.ntmps89
          go_wp2_with (go_at_call 67; refine (HG.out _ _ (by simp)).mono ?_; rintro _ w1 ⟨rfl, hb1⟩)
          go_ret
          exact ⟨ret_bool HT.out.symm, by (repeat (first | exact Below.refl _ _ | assumption | (refine Below.alloc ?_ (by first | omega | (simp; omega) | (simp; done)) _) | (refine Below.setCell ?_ (by first | omega | (simp; omega) | (simp; done)) _) | (refine Below.drew ?_) | (refine belowN ?_ _) | (refine Below.trans ?_ (Below.mono ‹Below _ _ _› (by first | omega | (simp; omega) | (simp; done))))))⟩
theorem isCh_any (A : Option Addr) (c : Nat) (ts : List Ch) (w : World) (hl : ts.length ≤ 1000000) (hr : Sl Ch.cells 2 w w.heap.size A ts) :
    Calls Try.prog 63 #[.slice A ts.length c] w fun e w' => e = .returned (.bool (!(ts.any badC))) ∧ Below w.heap.size w w' := by
  have HA := Lib.hid (chsany_any 89 #[] A c ts badC w ent_isCh1 hl hr (fun t _ W' _ => isCh1_any t.n t.d W'))
  clear hr
  go_enter Try.func63, Try.ntmps63
  go_wp2_with (go_at_call 88; refine HA.out.mono ?_; rintro _ w1 ⟨rfl, hb1⟩)
  go_ret
  exact ⟨rfl, hb1⟩
theorem isCh1of_any (a : Ch) (W : World) (b : Nat) (h0 : b = W.heap.size) :
    Calls Try.prog 63 #[.slice (some ⟨b, 0, none⟩) 1 1] (W.alloc (.cells #[.int .i64 a.n, .int .i64 a.d] 27)) fun e w' => e = .returned (.bool (okC a)) ∧ Below W.heap.size W w' := by
  subst h0
  have h := isCh_any (some ⟨W.heap.size, 0, none⟩) 1 [a] (W.alloc (.cells #[.int .i64 a.n, .int .i64 a.d] 27)) (by simp) (sl_one (Blk.new W _ _) rfl rfl)
  rw [any_one] at h
  exact h.mono fun _ _ ⟨h1, h2⟩ => ⟨h1, bl3 (Below.refl _ _) h2⟩
theorem isCh2of_any (a b : Ch) (W : World) (k : Nat) (h0 : k = W.heap.size) :
    Calls Try.prog 63 #[.slice (some ⟨k, 0, none⟩) 2 2] (W.alloc (.cells #[.int .i64 a.n, .int .i64 a.d, .int .i64 b.n, .int .i64 b.d] 27)) fun e w' => e = .returned (.bool (okP a b)) ∧ Below W.heap.size W w' := by
  subst h0
  have h := isCh_any (some ⟨W.heap.size, 0, none⟩) 2 [a, b] (W.alloc (.cells #[.int .i64 a.n, .int .i64 a.d, .int .i64 b.n, .int .i64 b.d] 27)) (by simp) (sl_one (Blk.new W _ _) rfl rfl)
  rw [any_two] at h
  exact h.mono fun _ _ ⟨h1, h2⟩ => ⟨h1, bl3 (Below.refl _ _) h2⟩
end Go.Proofs.Ytiikkcifdhcejaa
namespace Go.Proofs.Ytiikkcifdhcejaa
open Go.RowKit

set_option maxRecDepth 100000 in
set_option maxHeartbeats 1000000 in
theorem not_any (a : Ch) (w : World) : Calls Try.prog 43 #[.agg #[.int .i64 a.n, .int .i64 a.d]] w (RetC (notR a) w) := by
  have HI := Lib.hid (isCh1of_any a)
  by_cases ok : okC a = true
  · have HT : Hid (notR a = (a.d - a.n, a.d, 0)) := (by unfold notR; rw [if_pos ok] : notR a = _)
    have O := okC_iff.1 ok
    have o1 := O.d1; have o2 := O.d2; have o3 := O.n0; have o4 := O.n1
    rw [ok] at HI
    clear ok O
    obtain ⟨n, hn⟩ : ∃ n, n = a.n := ⟨_, rfl⟩
    obtain ⟨d, hd⟩ : ∃ n, n = a.d := ⟨_, rfl⟩
    rw [← hn, ← hd] at HI HT ⊢
    rw [← hd] at o1 o2 o4
    rw [← hn] at o3 o4
    clear hn hd
    go_enter Try.func43, Try.ntmps43
    go_wp2_with (go_at_call 63; refine (HI.out _ _ (by first | omega | (simp; omega) | (simp; done))).mono ?_; rintro _ w1 ⟨rfl, hb1⟩; have g0 : Blk w1 w.heap.size #[.int .i64 n, .int .i64 d] 27 := ((Blk.at_ rfl).alloc _).below hb1 (by first | omega | (simp; omega) | (simp; done)); have g1 : Blk w1 (w.heap.size + 1) #[.int .i64 0, .int .i64 0] 27 := (Blk.at_ (by simp)).below hb1 (by first | omega | (simp; omega) | (simp; done)); have hz := g1.lt; have c0 := g0.cell 0; have c1 := g0.cell 1; have f0 := g1.free 0; have f1 := g1.free 1; have e0 := g1.cell 0; have e1 := g1.cell 1; simp at c0 c1 e0 e1)
    refine gen_w (fun W => Blk W (w.heap.size + 1) #[.int .i64 (d - n), .int .i64 d] 27 ∧ Below w.heap.size w W) ⟨(by have := (g1.set 0 (.int .i64 (d - n))).set 1 (.int .i64 d); simp at this; exact this), by (repeat (first | exact Below.refl _ _ | assumption | (refine Below.alloc ?_ (by first | omega | (simp; omega) | (simp; done)) _) | (refine Below.setCell ?_ (by first | omega | (simp; omega) | (simp; done)) _) | (refine Below.drew ?_) | (refine belowN ?_ _) | (refine Below.trans ?_ (Below.mono ‹Below _ _ _› (by first | omega | (simp; omega) | (simp; done))))))⟩ ?_
    rintro W ⟨gW, hW⟩
    have q0 := gW.cell 0; have q1 := gW.cell 1
    simp at q0 q1
    exact bodyPost_ret (v := .tuple #[.agg #[.int .i64 (d - n), .int .i64 d], .int .i64 0]) (by simp [results, Try.results43, go_sem, q0, q1]) rfl ⟨by rw [HT.out], hW⟩
  · have ok' : okC a = false := by simpa using ok
    have HT : Hid (notR a = (0, 0, 2)) := (by unfold notR; rw [if_neg ok] : notR a = _)
    rw [ok'] at HI
    clear ok ok'
    go_enter Try.func43, Try.ntmps43
    go_wp2_with (go_at_call 63; refine (HI.out _ _ (by first | omega | (simp; omega) | (simp; done))).mono ?_; rintro _ w1 ⟨rfl, hb1⟩; have g1 : Blk w1 (w.heap.size + 1) #[.int .i64 0, .int .i64 0] 27 := (Blk.at_ (by simp)).below hb1 (by first | omega | (simp; omega) | (simp; done)); have hz := g1.lt; have f0 := g1.free 0; have f1 := g1.free 1; have e0 := g1.cell 0; have e1 := g1.cell 1; simp at e0 e1)
    refine gen_w (fun W => Blk W (w.heap.size + 1) #[.int .i64 0, .int .i64 0] 27 ∧ Below w.heap.size w W) ⟨(by have := (g1.set 0 (.int .i64 0)).set 1 (.int .i64 0); simp at this; exact this), by (repeat (first | exact Below.refl _ _ | assumption | (refine Below.alloc ?_ (by first | omega | (simp; omega) | (simp; done)) _) | (refine Below.setCell ?_ (by first | omega | (simp; omega) | (simp; done)) _) | (refine Below.drew ?_) | (refine belowN ?_ _) | (refine Below.trans ?_ (Below.mono ‹Below _ _ _› (by first | omega | (simp; omega) | (simp; done))))))⟩ ?_
    rintro W ⟨gW, hW⟩
    have q0 := gW.cell 0; have q1 := gW.cell 1
    simp at q0 q1
    exact bodyPost_ret (v := .tuple #[.agg #[.int .i64 0, .int .i64 0], .int .i64 2]) (by simp [results, Try.results43, go_sem, q0, q1]) rfl ⟨by rw [HT.out], hW⟩
/-- a number and an error are returned -/
def RetI2 (x : Int × Int) (w : World) (e : Ending) (w' : World) : Prop := e = .returned (.tuple #[.int .i64 x.1, .int .i64 x.2]) ∧ Below w.heap.size w w'
set_option maxRecDepth 100000 in
set_option maxHeartbeats 2000000 in
theorem compare_any (a b : Ch) (w : World) : Calls Try.prog 26 #[.agg #[.int .i64 a.n, .int .i64 a.d], .agg #[.int .i64 b.n, .int .i64 b.d]] w (RetI2 (cmpR a b) w) := by
  have HI := Lib.hid (isCh2of_any a b)
  by_cases ok : okP a b = true
  · have HT : Hid (cmpR a b = (cmpI (a.n * b.d) (b.n * a.d), 0)) := (by unfold cmpR; rw [if_pos ok] : cmpR a b = _)
    obtain ⟨O1, O2⟩ := okP_iff.1 ok
    have o1 := O1.d1; have o2 := O1.d2; have o3 := O1.n0; have o4 := O1.n1
    have o5 := O2.d1; have o6 := O2.d2; have o7 := O2.n0; have o8 := O2.n1
    rw [ok] at HI
    have HT1 := Lib.hid (fun w => times_any a.n b.d w (by omega) (by omega) (by omega) (by omega))
    have HT2 := Lib.hid (fun w => times_any b.n a.d w (by omega) (by omega) (by omega) (by omega))
    have HWC := Lib.hid (fun w => wcompare_any (a.n * b.d) (b.n * a.d) w)
    clear ok O1 O2
    obtain ⟨n, hn⟩ : ∃ n, n = a.n := ⟨_, rfl⟩
    obtain ⟨d, hd⟩ : ∃ n, n = a.d := ⟨_, rfl⟩
    obtain ⟨p, hp⟩ : ∃ n, n = b.n := ⟨_, rfl⟩
    obtain ⟨q, hq⟩ : ∃ n, n = b.d := ⟨_, rfl⟩
    obtain ⟨x, hx⟩ : ∃ n, n = a.n * b.d := ⟨_, rfl⟩
    obtain ⟨y, hy⟩ : ∃ n, n = b.n * a.d := ⟨_, rfl⟩
    rw [← hx, ← hy] at HWC HT
    rw [← hx] at HT1
    rw [← hy] at HT2
    rw [← hn, ← hd, ← hp, ← hq] at HI ⊢
    rw [← hn, ← hq] at HT1
    rw [← hp, ← hd] at HT2
    rw [← hn] at o3 o4
    rw [← hd] at o1 o2 o4
    rw [← hp] at o7 o8
    rw [← hq] at o5 o6 o8
    clear hn hd hp hq hx hy
    go_enter Try.func26, Try.ntmps26
    go_wp2_with (go_at_call 63; refine (HI.out _ _ (by first | omega | (simp; omega) | (simp; done))).mono ?_; rintro _ w1 ⟨rfl, hb1⟩; have g0 : Blk w1 w.heap.size #[.int .i64 n, .int .i64 d] 27 := ((Blk.at_ rfl).alloc _).below hb1 (by first | omega | (simp; omega) | (simp; done)); have g1 : Blk w1 (w.heap.size + 1) #[.int .i64 p, .int .i64 q] 27 := (Blk.at_ (by simp)).below hb1 (by first | omega | (simp; omega) | (simp; done)); have hz := g1.lt; have c0 := g0.cell 0; have c1 := g0.cell 1; have c2 := g1.cell 0; have c3 := g1.cell 1; have hw1 : Below w.heap.size w w1 := (by (repeat (first | exact Below.refl _ _ | assumption | (refine Below.alloc ?_ (by first | omega | (simp; omega) | (simp; done)) _) | (refine Below.setCell ?_ (by first | omega | (simp; omega) | (simp; done)) _) | (refine Below.drew ?_) | (refine belowN ?_ _) | (refine Below.trans ?_ (Below.mono ‹Below _ _ _› (by first | omega | (simp; omega) | (simp; done))))))); simp at c0 c1 c2 c3)
    have g0b := g0; have g1b := g1
    go_region_held (fun W' => W'.cell? ⟨w.heap.size, 0, none⟩ = some (.int .i64 n) ∧ W'.cell? ⟨w.heap.size, 1, none⟩ = some (.int .i64 d) ∧ W'.cell? ⟨w.heap.size + 1, 0, none⟩ = some (.int .i64 p) ∧ W'.cell? ⟨w.heap.size + 1, 1, none⟩ = some (.int .i64 q)) (exact ⟨c0, c1, c2, c3⟩)
      (first | (go_at_call 65; have _ := hx3; (with_reducible refine (HWC.out _).mono ?_); rintro _ w4 ⟨rfl, hb4⟩; have hx4 : Below w1.heap.size w1 w4 := bl2 hx3 (Below.trans (by (repeat (first | exact Below.refl _ _ | assumption | (refine Below.alloc ?_ (by first | omega | (simp; omega) | (simp; done)) _) | (refine Below.setCell ?_ (by first | omega | (simp; omega) | (simp; done)) _) | (refine Below.drew ?_) | (refine belowN ?_ _) | (refine Below.trans ?_ (Below.mono ‹Below _ _ _› (by first | omega | (simp; omega) | (simp; done))))))) (hb4.mono (by simp))); have g0 := g0b.below hx4 g0b.lt; have g1 := g1b.below hx4 g1b.lt; have hz := g1.lt; have c0 := g0.cell 0; have c1 := g0.cell 1; have c2 := g1.cell 0; have c3 := g1.cell 1; simp at c0 c1 c2 c3) |
        (go_at_call 64; have _ := hx2; (with_reducible refine (HT2.out _).mono ?_); rintro _ w3 ⟨rfl, hb3⟩; have hx3 : Below w1.heap.size w1 w3 := bl2 hx2 (Below.trans (by (repeat (first | exact Below.refl _ _ | assumption | (refine Below.alloc ?_ (by first | omega | (simp; omega) | (simp; done)) _) | (refine Below.setCell ?_ (by first | omega | (simp; omega) | (simp; done)) _) | (refine Below.drew ?_) | (refine belowN ?_ _) | (refine Below.trans ?_ (Below.mono ‹Below _ _ _› (by first | omega | (simp; omega) | (simp; done))))))) (hb3.mono (by simp))); have g0 := g0b.below hx3 g0b.lt; have g1 := g1b.below hx3 g1b.lt; have hz := g1.lt; have c0 := g0.cell 0; have c1 := g0.cell 1; have c2 := g1.cell 0; have c3 := g1.cell 1; simp at c0 c1 c2 c3) |
        (go_at_call 64; (with_reducible refine (HT1.out _).mono ?_); rintro _ w2 ⟨rfl, hb2⟩; have hx2 : Below w1.heap.size w1 w2 := Below.trans (by (repeat (first | exact Below.refl _ _ | assumption | (refine Below.alloc ?_ (by first | omega | (simp; omega) | (simp; done)) _) | (refine Below.setCell ?_ (by first | omega | (simp; omega) | (simp; done)) _) | (refine Below.drew ?_) | (refine belowN ?_ _) | (refine Below.trans ?_ (Below.mono ‹Below _ _ _› (by first | omega | (simp; omega) | (simp; done))))))) (hb2.mono (by simp)); have g0 := g0b.below hx2 g0b.lt; have g1 := g1b.below hx2 g1b.lt; have hz := g1.lt; have c0 := g0.cell 0; have c1 := g0.cell 1; have c2 := g1.cell 0; have c3 := g1.cell 1; simp at c0 c1 c2 c3))
    all_goals (
      go_wp2
      go_ret2
      exact ⟨by rw [HT.out]; rfl, bl2 hw1 hx4⟩)
  · have ok' : okP a b = false := by simpa using ok
    have HT : Hid (cmpR a b = (0, 2)) := (by unfold cmpR; rw [if_neg ok] : cmpR a b = _)
    rw [ok'] at HI
    clear ok ok'
    go_enter Try.func26, Try.ntmps26
    go_wp2_with (go_at_call 63; refine (HI.out _ _ (by first | omega | (simp; omega) | (simp; done))).mono ?_; rintro _ w1 ⟨rfl, hb1⟩)
    go_ret2
    exact ⟨by rw [HT.out]; rfl, by (repeat (first | exact Below.refl _ _ | assumption | (refine Below.alloc ?_ (by first | omega | (simp; omega) | (simp; done)) _) | (refine Below.setCell ?_ (by first | omega | (simp; omega) | (simp; done)) _) | (refine Below.drew ?_) | (refine belowN ?_ _) | (refine Below.trans ?_ (Below.mono ‹Below _ _ _› (by first | omega | (simp; omega) | (simp; done))))))⟩
end Go.Proofs.Ytiikkcifdhcejaa
namespace Go.Proofs.Ytiikkcifdhcejaa
open Go.RowKit

/-- from block z on, what was there has not turned -/
def Upper (z : Nat) (W W' : World) : Prop := ∀ k, z ≤ k → k < W.heap.size → W'.heap[k]? = W.heap[k]?
theorem Upper.blk {z b : Nat} {W W' : World} {cs : Array Value} {t : TypeId} (h : Upper z W W') (hb : Blk W b cs t) (hz : z ≤ b) : Blk W' b cs t := (h b hz (Blk.lt hb)).trans hb
end Go.Proofs.Ytiikkcifdhcejaa
namespace Go.Proofs.Ytiikkcifdhcejaa
open Go.RowKit

theorem bl_ext {w W : World} (h : Below w.heap.size w W) (E : Grow W) : Below w.heap.size w (World.ext W E) := bl2 h E.h
theorem errsW_two (x y : LL) : errsW [x, y] = if errW x.l ≠ 0 then errW x.l else errW y.l := by
  simp only [errsW]
  split
  · rfl
  · split
    · rfl
    · rename_i h; exact (Classical.not_not.1 h).symm
abbrev tw2 (A A2 : Option Addr) (c c2 : Nat) (a b : List Int) : List LL := [⟨A, c, a⟩, ⟨A2, c2, b⟩]
theorem smallB_true {a b : Int} (h : a * b ≤ 1000000000000000) : smallB a b = true := by simpa [smallB] using h
theorem smallB_false {a b : Int} (h : ¬ a * b ≤ 1000000000000000) : smallB a b = false := by simpa [smallB] using h
end Go.Proofs.Ytiikkcifdhcejaa

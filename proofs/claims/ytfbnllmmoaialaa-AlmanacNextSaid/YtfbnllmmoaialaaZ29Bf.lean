/- almanac: Common. -/
import Derived.Test.YtfbnllmmoaialaaZ28Pi
import Derived.Test.YtfbnllmmoaialaaB20Fa
import Derived.Test.YtfbnllmmoaialaaB00Mem
import Derived.Test.YtfbnllmmoaialaaZ22Hf
import Derived.Deep.RegionHeld3
import Derived.Deep.DeepCutAuto
import Derived.Test.YtfbnllmmoaialaaZ27RfN
import Derived.Test.YtfbnllmmoaialaaZ21Hc
import Derived.Test.YtfbnllmmoaialaaBe
namespace Go.Proofs.Ytfbnllmmoaialaa
open Go.RowKit
attribute [local go_sem] Oper.semAt_some

theorem check_val {x : Alm} {A2 : Option Addr} {c2 : Nat} {rs : List DRl} {v : Int} (h : chkE x.cycles rs = v) (w : World) (hx : almB x = true) (hc : Sl Cyc.cells 2 w w.heap.size x.a x.cycles) (hr : RlsAt w w.heap.size A2 rs) :
    Calls Try.prog 90 #[.agg x.cells.toArray, .slice A2 rs.length c2] w fun e w' => e = .returned (.int .i64 v) ∧ Below w.heap.size w w' := h ▸ check_any x A2 c2 rs w hx hc hr
theorem PsA.slp {W : World} {B : Nat} {A : Option Addr} {ps : List DPs} {P : Nat → Prop} (h : PsA W B A ps) (hP : ∀ b, b < B → P b) : PsP W P A ps :=
  ⟨h.len, h.sl.slp hP, fun p hp => (h.rul p hp).len, fun p hp => (h.rul p hp).sl.slp hP, fun p hp r hr => ((h.rul p hp).rul r hr).len, fun p hp r hr => ((h.rul p hp).rul r hr).set, fun p hp r hr => ((h.rul p hp).rul r hr).sl.slp hP⟩
set_option maxRecDepth 100000 in
set_option maxHeartbeats 4000000 in
theorem common_any (x : Alm) (A2 : Option Addr) (c2 : Nat) (ps : List DPs) (fr to_ : Int) (w : World) (hl : x.cycles.length ≤ 1000000) (hc : Sl Cyc.cells 2 w w.heap.size x.a x.cycles) (hr : PsA w w.heap.size A2 ps) :
    Calls Try.prog 52 #[.agg x.cells.toArray, .slice A2 ps.length c2, .int .i64 fr, .int .i64 to_] w fun e w' => e = .returned (.tuple #[.int .i64 (comR x ps fr to_).1, .int .i64 (comR x ps fr to_).2]) ∧ Below w.heap.size w w' := by
  have hlen := hr.len
  have HC := Lib.hid (fun W (hW : Below w.heap.size w W) => by
    have h := checkF_any x.a x.c x.cycles x.sol.e x.sol.b x.sol.u x.lun.d x.lun.p x.lun.f x.lun.m x.lun.y x.lun.s x.lun.l W hl ((hc.below hW).more hW.size)
    exact (h : Calls Try.prog 36 #[.agg x.cells.toArray] W fun en w' => en = .returned (.int .i64 (almE x)) ∧ Below W.heap.size W w'))
  obtain ⟨R, hR⟩ : ∃ R, R = comR x ps fr to_ := ⟨_, rfl⟩
  rw [← hR]
  cases hx : almB x with
  | false =>
    have HT : Hid (R = (0, 2)) := (by rw [hR]; unfold comR comE; rw [hx]; simp : R = (0, 2))
    have hE : almE x = 2 := by simp [almE, hx]
    rw [hE] at HC
    clear hE hx hc hr hR
    obtain ⟨A, c, l, ⟨e, b, u⟩, ⟨d, p, f, m, y, s, k⟩⟩ := x
    simp only [Alm.cells] at *
    go_enter Try.func52, Try.ntmps52
    go_wp2_with (go_at_call 36; refine (HC.out _ (by (repeat (first | exact Below.refl _ _ | assumption | (refine Below.alloc ?_ (by first | omega | (simp; omega) | (simp; done)) _) | (refine Below.setCell ?_ (by first | omega | (simp; omega) | (simp; done)) _) | (refine Below.drew ?_) | (refine belowN ?_ _) | (refine Below.trans ?_ (Below.mono ‹Below _ _ _› (by first | omega | (simp; omega) | (simp; done)))))))).mono ?_; rintro _ W1 ⟨rfl, hb1⟩; have hw1 : Below w.heap.size w W1 := bl2 (by (repeat (first | exact Below.refl _ _ | assumption | (refine Below.alloc ?_ (by first | omega | (simp; omega) | (simp; done)) _) | (refine Below.setCell ?_ (by first | omega | (simp; omega) | (simp; done)) _) | (refine Below.drew ?_) | (refine belowN ?_ _) | (refine Below.trans ?_ (Below.mono ‹Below _ _ _› (by first | omega | (simp; omega) | (simp; done))))))) hb1)
    refine bodyPost_ret (v := .tuple #[.int .i64 0, .int .i64 2]) (by simp [results, Try.results52, go_sem]) rfl ?_
    rw [HT.out]
    exact ⟨rfl, hw1⟩
  | true =>
    have hE : almE x = 0 := by simp [almE, hx]
    rw [hE] at HC
    by_cases h10 : 10 < ps.length
    · have HT : Hid (R = (0, 5)) := (by rw [hR]; unfold comR comE; rw [hx]; simp [h10] : R = (0, 5))
      have d1 : decide (10 < (ps.length : Int)) = true := by simp; omega
      clear hE hx hc hr hR
      obtain ⟨A, c, l, ⟨e, b, u⟩, ⟨d, p, f, m, y, s, k⟩⟩ := x
      simp only [Alm.cells] at *
      go_enter Try.func52, Try.ntmps52
      go_wp2_with (go_at_call 36; refine (HC.out _ (by (repeat (first | exact Below.refl _ _ | assumption | (refine Below.alloc ?_ (by first | omega | (simp; omega) | (simp; done)) _) | (refine Below.setCell ?_ (by first | omega | (simp; omega) | (simp; done)) _) | (refine Below.drew ?_) | (refine belowN ?_ _) | (refine Below.trans ?_ (Below.mono ‹Below _ _ _› (by first | omega | (simp; omega) | (simp; done)))))))).mono ?_; rintro _ W1 ⟨rfl, hb1⟩; have hw1 : Below w.heap.size w W1 := bl2 (by (repeat (first | exact Below.refl _ _ | assumption | (refine Below.alloc ?_ (by first | omega | (simp; omega) | (simp; done)) _) | (refine Below.setCell ?_ (by first | omega | (simp; omega) | (simp; done)) _) | (refine Below.drew ?_) | (refine belowN ?_ _) | (refine Below.trans ?_ (Below.mono ‹Below _ _ _› (by first | omega | (simp; omega) | (simp; done))))))) hb1)
      refine bodyPost_ret (v := .tuple #[.int .i64 0, .int .i64 5]) (by simp [results, Try.results52, go_sem]) rfl ?_
      rw [HT.out]
      exact ⟨rfl, hw1⟩
    · have d1 : decide (10 < (ps.length : Int)) = false := by simp; omega
      have HRE : Hid (∀ v, v = chkP x.cycles ps → v ≠ 0 → R = (0, v)) := (fun v hv hn => by rw [hR]; unfold comR comE; rw [hx]; simp [h10, ← hv, hn] : ∀ v, v = chkP x.cycles ps → v ≠ 0 → R = (0, v))
      have HRZ : Hid (chkP x.cycles ps = 0 → R = if spanB fr to_ then firstR (daysL x ps fr to_) else (0, 3)) := (fun hv => by rw [hR]; unfold comR comE; rw [hx]; simp [h10, hv] : chkP x.cycles ps = 0 → R = if spanB fr to_ then firstR (daysL x ps fr to_) else (0, 3))
      have HV := Lib.hid (fun p (hp : p ∈ ps) v (hv : chkE x.cycles p.rules = v) W (hW : Below w.heap.size w W) => check_val (A2 := p.a) (c2 := p.c) hv W hx ((hc.below hW).more hW.size) (((hr.rul p hp).below hW).more hW.size))
      have HPS := Lib.hid hr.sl
      have HSP := Lib.hid (fun W => isSpan_any fr to_ W)
      have HDY := Lib.hid (fun W => days_any x A2 ps.length c2 fr to_ W)
      have HFI := Lib.hid (fun s W (hz : chkP x.cycles ps = 0) (hsp : spanB fr to_ = true) (hW : Below w.heap.size w W) (g0 : Blk W s x.cells.toArray 28) (g1 : Blk W (s + 1) #[.slice A2 ps.length c2] 49) (g2 : Blk W (s + 2) #[.int .i64 fr] 3) (g3 : Blk W (s + 3) #[.int .i64 to_] 3) => by
        obtain ⟨⟨q1, q2⟩, ⟨q3, q4⟩, q5, q6⟩ := spanB_iff.1 hsp
        have h := first_any (fun b => b < W.heap.size) x ps fr to_ s A2 c2 W hx q1 q4 (by omega) (fun p hp r hr => chkE_bad (chkP_zero hz p hp) r hr) (fun b hb => hb)
          ⟨g0.lt, g2.lt, g3.lt, g1.lt, g0, g2, g3, g1, ((hc.below hW).more hW.size).slp (fun b hb => hb), ((hr.below hW).more hW.size).slp (fun b hb => hb)⟩
        exact (h : Calls Try.prog 91 #[dayF s] W fun e w' => e = .returned (.tuple #[.int .i64 (firstR (daysL x ps fr to_)).1, .int .i64 (firstR (daysL x ps fr to_)).2]) ∧ Below W.heap.size W w'))
      obtain ⟨F, hF⟩ : ∃ F, F = firstR (daysL x ps fr to_) := ⟨_, rfl⟩
      rw [← hF] at HRZ HFI
      obtain ⟨CH, hCH⟩ : ∃ CH, CH = chkP x.cycles := ⟨_, rfl⟩
      rw [← hCH] at HRE HRZ HFI
      have HCN : Hid (CH [] = 0) := (by rw [hCH]; rfl : CH [] = 0)
      have HCC : Hid (∀ p l, CH (p :: l) = if chkE x.cycles p.rules = 0 then CH l else chkE x.cycles p.rules) := (fun p l => by rw [hCH]; rfl : ∀ p l, CH (p :: l) = if chkE x.cycles p.rules = 0 then CH l else chkE x.cycles p.rules)
      clear hE hx hc hr hF hCH hR h10
      obtain ⟨A, c, l, ⟨e, b, u⟩, ⟨d, p, f, m, y, s, k⟩⟩ := x
      simp only [Alm.cells] at HC HV HDY HFI HCC ⊢
      go_enter Try.func52, Try.ntmps52
      go_upto_region 6 with (go_at_call 36; refine (HC.out _ (by (repeat (first | exact Below.refl _ _ | assumption | (refine Below.alloc ?_ (by first | omega | (simp; omega) | (simp; done)) _) | (refine Below.setCell ?_ (by first | omega | (simp; omega) | (simp; done)) _) | (refine Below.drew ?_) | (refine belowN ?_ _) | (refine Below.trans ?_ (Below.mono ‹Below _ _ _› (by first | omega | (simp; omega) | (simp; done)))))))).mono ?_; rintro _ W1 ⟨rfl, hb1⟩; have hw1 : Below w.heap.size w W1 := bl2 (by (repeat (first | exact Below.refl _ _ | assumption | (refine Below.alloc ?_ (by first | omega | (simp; omega) | (simp; done)) _) | (refine Below.setCell ?_ (by first | omega | (simp; omega) | (simp; done)) _) | (refine Below.drew ?_) | (refine belowN ?_ _) | (refine Below.trans ?_ (Below.mono ‹Below _ _ _› (by first | omega | (simp; omega) | (simp; done))))))) hb1)
      have ga : Blk W1 w.heap.size #[.slice A l.length c, .int .i64 e, .int .i64 b, .int .i64 u, .int .i64 d, .int .i64 p, .int .i64 f, .int .i64 m, .int .i64 y, .int .i64 s, .int .i64 k] 28 := (Blk.at_ rfl).below hb1 (by simp)
      have HG1 := Lib.hid ga; have HW1 := Lib.hid hw1
      clear ga hb1 hw1
      go_loopw [11, 12, 23] (fun _ _ i wr => ∃ q : Nat, q ≤ ps.length ∧ i = .int .i64 q ∧ Hid (CH (ps.drop q) = CH ps) ∧ Hid (Below w.heap.size w wr) ∧ Hid (Blk wr w.heap.size #[.slice A l.length c, .int .i64 e, .int .i64 b, .int .i64 u, .int .i64 d, .int .i64 p, .int .i64 f, .int .i64 m, .int .i64 y, .int .i64 s, .int .i64 k] 28)) (fun _ _ i _ => ps.length - (intOf i).toNat)
      case atStart => exact ⟨0, by omega, rfl, rfl, HW1.out, HG1.out⟩
      case round =>
        clear HW1 HG1
        obtain ⟨q, hq, rfl, HCQ, hbw, hga⟩ := hrel
        have hw := hbw.out
        have ga := hga.out
        clear hbw hga
        (have z0 := ga.cell 0; have z1 := ga.cell 1; have z2 := ga.cell 2; have z3 := ga.cell 3; have z4 := ga.cell 4; have z5 := ga.cell 5; have z6 := ga.cell 6; have z7 := ga.cell 7; have z8 := ga.cell 8; have z9 := ga.cell 9; have z10 := ga.cell 10; simp at z0 z1 z2 z3 z4 z5 z6 z7 z8 z9 z10)
        by_cases hlt : q < ps.length
        · obtain ⟨rb, ro, rfl, hrblk, hrcell⟩ := (HPS.out.below hw).at_ (k := q) (fun _ => rfl) hlt
          have HZ : Hid (ps.drop q = ps[q] :: ps.drop (q + 1)) := (List.drop_eq_getElem_cons hlt : _ = _)
          have HDQ := Lib.hid (HV.out _ (List.getElem_mem hlt))
          have HCQ2 := Lib.hid (HCC.out ps[q] (ps.drop (q + 1)))
          obtain ⟨r, hre⟩ : ∃ r, r = ps[q] := ⟨_, rfl⟩
          rw [← hre] at hrcell HZ HDQ HCQ2
          obtain ⟨pa, pc, rs⟩ := r
          have r0 : wr.cell? ⟨rb, ro + q, none⟩ = some (.slice pa rs.length pc) := by have := hrcell 0 _ rfl; simpa using this
          simp only at HDQ HCQ2
          obtain ⟨v, hv⟩ : ∃ v, v = chkE l rs := ⟨_, rfl⟩
          have HDW := Lib.hid (HDQ.out v hv.symm)
          rw [← hv] at HCQ2
          have k0 : (0 : Int) ≤ (q : Int) := by omega
          have k1 : (q : Int) < (ps.length : Int) := by omega
          clear hrcell hre hv HDQ
          by_cases h0 : v = 0
          · have t0 : (v != 0) = false := by simp [h0]
            have HC1 : Hid (CH (ps.drop (q + 1)) = CH ps) := (by rw [← HCQ.out, HZ.out, HCQ2.out, if_pos h0] : _ = _)
            go_wp2_with (go_at_call 90; (with_reducible refine (HDW.out _ hw).mono ?_); rintro _ W2 ⟨rfl, hb2⟩)
            go_roundw
            case rel => exact ⟨q + 1, by omega, by go_num, HC1, bl2 hw hb2, ga.below hb2 ga.lt⟩
            case measure => simp [intOf]; omega
          · have t0 : (v != 0) = true := by simpa using h0
            have HT : Hid (R = (0, v)) := (HRE.out v (by rw [← HCQ.out, HZ.out, HCQ2.out, if_neg h0]) h0 : R = (0, v))
            go_wp2_with (go_at_call 90; (with_reducible refine (HDW.out _ hw).mono ?_); rintro _ W2 ⟨rfl, hb2⟩)
            refine bodyPost_ret (v := .tuple #[.int .i64 0, .int .i64 v]) (by simp [results, Try.results52, go_sem]) rfl ?_
            rw [HT.out]
            exact ⟨rfl, bl2 hw hb2⟩
        · obtain rfl : q = ps.length := by omega
          have hz : CH ps = 0 := by rw [← HCQ.out, List.drop_eq_nil_of_le (Nat.le_refl _), HCN.out]
          have HZZ := Lib.hid hz
          have HRZ2 := Lib.hid (HRZ.out hz)
          clear hz
          cases hd : spanB fr to_ with
          | false =>
            rw [hd] at HSP
            have HT : Hid (R = (0, 3)) := (by rw [HRZ2.out, hd]; rfl : R = (0, 3))
            clear hd
            go_wp2_with (go_at_call 60; refine (HSP.out _).mono ?_; rintro _ W2 ⟨rfl, hb2⟩)
            refine bodyPost_ret (v := .tuple #[.int .i64 0, .int .i64 3]) (by simp [results, Try.results52, go_sem]) rfl ?_
            rw [HT.out]
            exact ⟨rfl, bl2 hw hb2⟩
          | true =>
            rw [hd] at HSP
            have HT : Hid (R = F) := (by rw [HRZ2.out, hd]; rfl : R = F)
            have HFJ := Lib.hid (fun s W => HFI.out s W HZZ.out hd)
            clear hd HFI HRZ HRZ2 HRE
            obtain ⟨F1, F2⟩ := F
            go_upto_region 14 with (go_at_call 60; refine (HSP.out _).mono ?_; rintro _ W2 ⟨rfl, hb2⟩)
            have hw2 := bl2 hw hb2
            have ga := ga.below hb2 ga.lt
            clear hb2 hw
            (clear z0 z1 z2 z3 z4 z5 z6 z7 z8 z9 z10)
            (have z0 := ga.cell 0; have z1 := ga.cell 1; have z2 := ga.cell 2; have z3 := ga.cell 3; have z4 := ga.cell 4; have z5 := ga.cell 5; have z6 := ga.cell 6; have z7 := ga.cell 7; have z8 := ga.cell 8; have z9 := ga.cell 9; have z10 := ga.cell 10; simp at z0 z1 z2 z3 z4 z5 z6 z7 z8 z9 z10)
            go_wp2_with fail
            refine (HDY.out _).mono ?_
            rintro _ W3 ⟨rfl, g0, g1, g2, g3, hb3, -⟩
            have hw3 := bl2 hw2 hb3
            obtain ⟨sz, hsz⟩ : ∃ n, n = W2.heap.size := ⟨_, rfl⟩
            rw [← hsz] at g0 g1 g2 g3 ⊢
            have HFF := Lib.hid (HFJ.out _ _ hw3 g0 g1 g2 g3)
            clear hsz g0 g1 g2 g3 hb3 HFJ HDY HSP
            go_wp2_with (go_at_call 91; refine HFF.out.mono ?_; rintro _ W5 ⟨rfl, hb5⟩)
            refine bodyPost_ret (v := .tuple #[.int .i64 F1, .int .i64 F2]) (by simp [results, Try.results52, go_sem]) rfl ?_
            rw [HT.out]
            exact ⟨rfl, bl2 hw3 hb5⟩
end Go.Proofs.Ytfbnllmmoaialaa
namespace Go.Proofs.Ytfbnllmmoaialaa
open Go.RowKit Go.ChangeShapes Go.WideShapes Go.ChangeAt Go.Deep
section
variable {H : Type} {enc : TypeId × Value → H}
theorem u16_wf {n : Int} (h : (Lit.int .u16 n).wf = true) : 0 ≤ n ∧ n < 65536 := by
  simp only [Lit.wf, Bool.and_eq_true, decide_eq_true_eq] at h
  have h1 : IntKind.u16.min = 0 := by decide
  have h2 : IntKind.u16.max = 65535 := by decide
  rw [h1, h2] at h; omega
set_option maxRecDepth 100000 in
theorem arg_u16 {W : World} {v : Value} {d : DataW H} {p : List MemPlace} {b0 : Nat} (hv : Value.okWide Try.prog W .any b0 103 v) (h : DataW.Trod enc Try.prog W 0 (fun _ => true) true 103 v d p) : ∃ a : Int, v = .int .u16 a ∧ 0 ≤ a ∧ a < 65536 := by
  have hu : Try.prog.underlying 103 = some (.int .u16) := by kernel_rfl
  simp only [Value.okWide, hu, Cell.okWide] at hv
  obtain ⟨fuel, hf⟩ := h
  obtain ⟨a, ha, _, hw⟩ := DataW.trod_int hu hf
  refine ⟨a, ?_, u16_wf hw⟩
  cases v <;> simp_all [Value.cells, Cell.ok]
end
end Go.Proofs.Ytfbnllmmoaialaa
namespace Go.Proofs.Ytfbnllmmoaialaa
open Go.RowKit Go.ChangeShapes Go.WideShapes Go.ChangeAt Go.Deep

theorem u8_wf {n : Int} (h : (Lit.int .u8 n).wf = true) : 0 ≤ n ∧ n < 256 := by
  simp only [Lit.wf, Bool.and_eq_true, decide_eq_true_eq] at h
  have h1 : IntKind.u8.min = 0 := by decide
  have h2 : IntKind.u8.max = 255 := by decide
  rw [h1, h2] at h; omega
section
variable {H : Type} {enc : TypeId × Value → H} {w : World} {base : Nat} {spare : Nat → Bool} {held : Bool}
theorem open_cyc {n : Nat} {cs : List Value} {y : DataW H × List MemPlace} (h : DataW.trod enc Try.prog w base spare held n 55 cs = some y) (hl : cs.length = 2) : ∃ u : Cyc, True ∧ u.cells = cs := by
  obtain ⟨xs, h1, h2⟩ := open_nint Try.underlying55 (by kernel_rfl) (by kernel_rfl) h hl
  match xs, h1 with
  | [a, b], _ => exact ⟨⟨a, b⟩, trivial, h2.symm⟩
theorem uCyclesF : Try.prog.underlying 22 = some (.slice 55) := by kernel_rfl
theorem open_cycs {n : Nat} {cs : List Value} {y : DataW H × List MemPlace} (h : DataW.trod enc Try.prog w base spare held n 22 cs = some y) : ∃ A c l, cs = [.slice A l.length c] ∧ Sl Cyc.cells 2 w w.heap.size A l ∧ (A = none → c = 0) := by
  obtain ⟨A, c, l, h1, h2, h3, _⟩ := open_sl Cyc.cells 2 (by omega) (fun _ => rfl) (fun _ => True) uCyclesF (by kernel_rfl) (fun n cs' y hy hl => open_cyc hy hl) h
  exact ⟨A, c, l, h1, h2, h3⟩
set_option maxRecDepth 100000 in
theorem arg_cycles {W : World} {v : Value} {d : DataW H} {p : List MemPlace} {b0 : Nat} (hv : Value.okWide Try.prog W .any b0 22 v) (h : DataW.Trod enc Try.prog W 0 (fun _ => true) true 22 v d p) : ∃ A c l, v = .slice A l.length c ∧ Sl Cyc.cells 2 W W.heap.size A l ∧ (A = none → c = 0) := by
  obtain ⟨fuel, hf⟩ := h
  obtain ⟨A, c, l, h1, h2, h3⟩ := open_cycs hf
  refine ⟨A, c, l, ?_, h2, h3⟩
  simp only [Value.okWide, uCyclesF, Cell.okWide] at hv
  cases v <;> simp_all [Value.cells, Cell.ok]
set_option maxRecDepth 100000 in
theorem arg_dial {W : World} {v : Value} {d : DataW H} {p : List MemPlace} {b0 : Nat} (hv : Value.okWide Try.prog W .any b0 67 v) (h : DataW.Trod enc Try.prog W 0 (fun _ => true) true 67 v d p) :
    ∃ (A : Option Addr) (c : Nat) (l : List Int) (f m : Int), v = .agg #[.slice A l.length c, .int .i64 f, .int .u8 m] ∧ Sl intCell 1 W W.heap.size A l ∧ (A = none → c = 0) ∧ 0 ≤ m ∧ m < 256 := by
  obtain ⟨cs, rfl, hsz⟩ := okWide_struct Try.underlying67 hv
  obtain ⟨fuel, hf0⟩ := h
  have hC : Try.prog.cellsOf 67 = 3 := by kernel_rfl
  have hl : (Value.agg cs).cells.toList.length = 3 := by simp [Value.cells]; omega
  obtain ⟨m, hf⟩ := struct_cells Try.underlying67 (by kernel_rfl) hl hf0
  obtain ⟨v0, z0, c0, t0⟩ := hf 0 _ rfl
  obtain ⟨v1, z1, c1, t1⟩ := hf 1 _ rfl
  obtain ⟨v2, z2, c2, t2⟩ := hf 2 _ rfl
  obtain ⟨A0, d0, l0, e0, s0, n0⟩ := open_ints uInts (by kernel_rfl) (by kernel_rfl) t0
  obtain ⟨a1, e1, _, _⟩ := DataW.trod_int (show Try.prog.underlying _ = some (.int .i64) by kernel_rfl) t1
  obtain ⟨a2, e2, _, w2⟩ := DataW.trod_int (show Try.prog.underlying _ = some (.int .u8) by kernel_rfl) t2
  simp only [List.cons.injEq, and_true] at e0 e1 e2
  subst e0 e1 e2
  obtain ⟨q1, q2⟩ := u8_wf w2
  refine ⟨A0, d0, l0, a1, a2, ?_, s0, n0, q1, q2⟩
  simp only [Value.cells] at hl c0 c1 c2
  obtain ⟨l⟩ := cs
  match l, hl with
  | [x0, x1, x2], _ =>
    simp at c0 c1 c2
    simp [c0, c1, c2]
end
end Go.Proofs.Ytfbnllmmoaialaa
namespace Go.Proofs.Ytfbnllmmoaialaa
open Go.RowKit Go.ChangeShapes Go.WideShapes Go.ChangeAt Go.Deep
section
variable {H : Type} {enc : TypeId × Value → H}
set_option maxRecDepth 100000 in
theorem arg_sdate {W : World} {v : Value} {d : DataW H} {p : List MemPlace} {b0 : Nat} (hv : Value.okWide Try.prog W .any b0 75 v) (h : DataW.Trod enc Try.prog W 0 (fun _ => true) true 75 v d p) : ∃ a b c : Int, v = .agg #[.int .i64 a, .int .i64 b, .int .i64 c] := by
  obtain ⟨cs, rfl, hsz⟩ := okWide_struct Try.underlying75 hv
  obtain ⟨fuel, hf⟩ := h
  have hC : Try.prog.cellsOf 75 = 3 := by kernel_rfl
  obtain ⟨xs, h1, h2⟩ := open_nint Try.underlying75 (by kernel_rfl) (by kernel_rfl) hf (by simp [Value.cells]; omega)
  match xs, h1 with
  | [a, b, c], _ => exact ⟨a, b, c, by simp only [Value.cells] at h2; obtain ⟨l⟩ := cs; simp at h2; subst h2; rfl⟩
set_option maxRecDepth 100000 in
theorem arg_span {W : World} {v : Value} {d : DataW H} {p : List MemPlace} {b0 : Nat} (hv : Value.okWide Try.prog W .any b0 36 v) (h : DataW.Trod enc Try.prog W 0 (fun _ => true) true 36 v d p) : ∃ a b : Int, v = .agg #[.int .i64 a, .int .i64 b] := by
  obtain ⟨cs, rfl, hsz⟩ := okWide_struct Try.underlying36 hv
  obtain ⟨fuel, hf⟩ := h
  have hC : Try.prog.cellsOf 36 = 2 := by kernel_rfl
  obtain ⟨xs, h1, h2⟩ := open_nint Try.underlying36 (by kernel_rfl) (by kernel_rfl) hf (by simp [Value.cells]; omega)
  match xs, h1 with
  | [a, b], _ => exact ⟨a, b, by simp only [Value.cells] at h2; obtain ⟨l⟩ := cs; simp at h2; subst h2; rfl⟩
set_option maxRecDepth 100000 in
theorem arg_ldate {W : World} {v : Value} {d : DataW H} {p : List MemPlace} {b0 : Nat} (hv : Value.okWide Try.prog W .any b0 77 v) (h : DataW.Trod enc Try.prog W 0 (fun _ => true) true 77 v d p) : ∃ (a b c : Int) (k : Bool), v = .agg #[.int .i64 a, .int .i64 b, .int .i64 c, .bool k] := by
  obtain ⟨cs, rfl, hsz⟩ := okWide_struct Try.underlying77 hv
  obtain ⟨fuel, hf0⟩ := h
  have hC : Try.prog.cellsOf 77 = 4 := by kernel_rfl
  have hl : (Value.agg cs).cells.toList.length = 4 := by simp [Value.cells]; omega
  obtain ⟨m, hf⟩ := struct_cells Try.underlying77 (by kernel_rfl) hl hf0
  obtain ⟨v0, z0, c0, t0⟩ := hf 0 _ rfl
  obtain ⟨v1, z1, c1, t1⟩ := hf 1 _ rfl
  obtain ⟨v2, z2, c2, t2⟩ := hf 2 _ rfl
  obtain ⟨v3, z3, c3, t3⟩ := hf 3 _ rfl
  obtain ⟨a0, e0, _, _⟩ := DataW.trod_int (show Try.prog.underlying _ = some (.int .i64) by kernel_rfl) t0
  obtain ⟨a1, e1, _, _⟩ := DataW.trod_int (show Try.prog.underlying _ = some (.int .i64) by kernel_rfl) t1
  obtain ⟨a2, e2, _, _⟩ := DataW.trod_int (show Try.prog.underlying _ = some (.int .i64) by kernel_rfl) t2
  obtain ⟨a3, e3, _⟩ := DataW.trod_bool (show Try.prog.underlying _ = some .bool by kernel_rfl) t3
  simp only [List.cons.injEq, and_true] at e0 e1 e2 e3
  subst e0 e1 e2 e3
  refine ⟨a0, a1, a2, a3, ?_⟩
  simp only [Value.cells] at hl c0 c1 c2 c3
  obtain ⟨l⟩ := cs
  match l, hl with
  | [x0, x1, x2, x3], _ =>
    simp at c0 c1 c2 c3
    simp [c0, c1, c2, c3]
end
end Go.Proofs.Ytfbnllmmoaialaa
namespace Go.Proofs.Ytfbnllmmoaialaa
open Go.RowKit Go.ChangeShapes Go.WideShapes Go.ChangeAt Go.Deep

theorem u64_wf {n : Int} (h : (Lit.int .u64 n).wf = true) : 0 ≤ n ∧ n < 18446744073709551616 := by
  simp only [Lit.wf, Bool.and_eq_true, decide_eq_true_eq] at h
  have h1 : IntKind.u64.min = 0 := by decide
  have h2 : IntKind.u64.max = 18446744073709551615 := by decide
  rw [h1, h2] at h; omega
section
variable {H : Type} {enc : TypeId × Value → H} {w : World} {base : Nat} {spare : Nat → Bool} {held : Bool}
theorem open_tstD {n : Nat} {cs : List Value} {y : DataW H × List MemPlace} (h : DataW.trod enc Try.prog w base spare held n 126 cs = some y) (hl : cs.length = 5) : ∃ u : DTs, (0 ≤ u.set ∧ u.set < 18446744073709551616) ∧ u.cells = cs := by
  obtain ⟨m, hf⟩ := struct_cells Try.underlying126 (by kernel_rfl) hl h
  obtain ⟨v0, z0, c0, t0⟩ := hf 0 _ rfl
  obtain ⟨v1, z1, c1, t1⟩ := hf 1 _ rfl
  obtain ⟨v2, z2, c2, t2⟩ := hf 2 _ rfl
  obtain ⟨v3, z3, c3, t3⟩ := hf 3 _ rfl
  obtain ⟨v4, z4, c4, t4⟩ := hf 4 _ rfl
  obtain ⟨a0, e0, _, _⟩ := DataW.trod_int (show Try.prog.underlying _ = some (.int .i64) by kernel_rfl) t0
  obtain ⟨a1, e1, _, _⟩ := DataW.trod_int (show Try.prog.underlying _ = some (.int .i64) by kernel_rfl) t1
  obtain ⟨a2, e2, _, w2⟩ := DataW.trod_int (show Try.prog.underlying _ = some (.int .u64) by kernel_rfl) t2
  obtain ⟨a3, e3, _, _⟩ := DataW.trod_int (show Try.prog.underlying _ = some (.int .i64) by kernel_rfl) t3
  obtain ⟨a4, e4, _, _⟩ := DataW.trod_int (show Try.prog.underlying _ = some (.int .i64) by kernel_rfl) t4
  simp only [List.cons.injEq, and_true] at e0 e1 e2 e3 e4
  subst e0 e1 e2 e3 e4
  refine ⟨⟨a0, a1, a2, a3, a4⟩, u64_wf w2, ?_⟩
  match cs, hl with
  | [x0, x1, x2, x3, x4], _ =>
    simp at c0 c1 c2 c3 c4
    simp [DTs.cells, c0, c1, c2, c3, c4]
theorem open_drule {n : Nat} {cs : List Value} {y : DataW H × List MemPlace} (h : DataW.trod enc Try.prog w base spare held n 83 cs = some y) (hl : cs.length = 2) : ∃ u : DRl, RulW w w.heap.size u ∧ u.cells = cs := by
  obtain ⟨m, hf⟩ := struct_cells Try.underlying83 (by kernel_rfl) hl h
  obtain ⟨v0, z0, c0, t0⟩ := hf 0 _ rfl
  obtain ⟨v1, z1, c1, t1⟩ := hf 1 _ rfl
  obtain ⟨A0, d0, l0, e0, s0, n0, q0⟩ := open_sl DTs.cells 5 (by omega) (fun _ => rfl) (fun u : DTs => 0 ≤ u.set ∧ u.set < 18446744073709551616) uTestsL (by kernel_rfl) (fun n cs' y hy hl => open_tstD hy hl) t0
  obtain ⟨a1, e1, _⟩ := DataW.trod_bool (show Try.prog.underlying _ = some .bool by kernel_rfl) t1
  simp only [List.cons.injEq, and_true] at e0 e1
  subst e0 e1
  refine ⟨⟨A0, d0, l0, a1⟩, ⟨q0, s0, n0⟩, ?_⟩
  match cs, hl with
  | [x0, x1], _ =>
    simp at c0 c1
    simp [DRl.cells, c0, c1]
theorem open_drules {n : Nat} {cs : List Value} {y : DataW H × List MemPlace} (h : DataW.trod enc Try.prog w base spare held n 29 cs = some y) : ∃ A c l, cs = [.slice A l.length c] ∧ RlsW w w.heap.size A l ∧ (A = none → c = 0) := by
  obtain ⟨A, c, l, h1, h2, h3, h4⟩ := open_sl DRl.cells 2 (by omega) (fun _ => rfl) (fun u => RulW w w.heap.size u) uRulesL (by kernel_rfl) (fun n cs' y hy hl => open_drule hy hl) h
  exact ⟨A, c, l, h1, ⟨h2, h4⟩, h3⟩
set_option maxRecDepth 100000 in
theorem arg_drules {W : World} {v : Value} {d : DataW H} {p : List MemPlace} {b0 : Nat} (hv : Value.okWide Try.prog W .any b0 29 v) (h : DataW.Trod enc Try.prog W 0 (fun _ => true) true 29 v d p) : ∃ A c l, v = .slice A l.length c ∧ RlsW W W.heap.size A l ∧ (A = none → c = 0) := by
  obtain ⟨fuel, hf⟩ := h
  obtain ⟨A, c, l, h1, h2, h3⟩ := open_drules hf
  refine ⟨A, c, l, ?_, h2, h3⟩
  simp only [Value.okWide, uRulesL, Cell.okWide] at hv
  cases v <;> simp_all [Value.cells, Cell.ok]
set_option maxRecDepth 100000 in
theorem arg_alm {W : World} {v : Value} {d : DataW H} {p : List MemPlace} {b0 : Nat} (hv : Value.okWide Try.prog W .any b0 28 v) (h : DataW.Trod enc Try.prog W 0 (fun _ => true) true 28 v d p) : ∃ x : Alm, v = .agg x.cells.toArray ∧ Sl Cyc.cells 2 W W.heap.size x.a x.cycles ∧ (x.a = none → x.c = 0) := by
  obtain ⟨cs, rfl, hsz⟩ := okWide_struct Try.underlying28 hv
  obtain ⟨fuel, hf0⟩ := h
  have hC : Try.prog.cellsOf 28 = 11 := by kernel_rfl
  obtain ⟨ys, n', hn', hy, hlen, hyl, hf⟩ := DataW.trod_struct Try.underlying28 hf0
  have q0 : DataW.trod enc Try.prog W 0 (fun _ => true) true n' 22 (((Value.agg cs).cells.toList.drop 0).take (Try.prog.cellsOf 22)) = ys[0]? := hf 0 _ rfl
  have q1 : DataW.trod enc Try.prog W 0 (fun _ => true) true n' 24 (((Value.agg cs).cells.toList.drop 1).take (Try.prog.cellsOf 24)) = ys[1]? := hf 1 _ rfl
  have q2 : DataW.trod enc Try.prog W 0 (fun _ => true) true n' 26 (((Value.agg cs).cells.toList.drop 4).take (Try.prog.cellsOf 26)) = ys[2]? := hf 2 _ rfl
  simp only [Value.cells] at hlen q0 q1 q2
  have k0 : Try.prog.cellsOf 22 = 1 := by kernel_rfl
  have k1 : Try.prog.cellsOf 24 = 3 := by kernel_rfl
  have k2 : Try.prog.cellsOf 26 = 7 := by kernel_rfl
  rw [hC] at hlen
  rw [k0] at q0; rw [k1] at q1; rw [k2] at q2
  have y0 : ∃ z, ys[0]? = some z := ⟨_, List.getElem?_eq_getElem (by rw [hyl]; decide)⟩
  have y1 : ∃ z, ys[1]? = some z := ⟨_, List.getElem?_eq_getElem (by rw [hyl]; decide)⟩
  have y2 : ∃ z, ys[2]? = some z := ⟨_, List.getElem?_eq_getElem (by rw [hyl]; decide)⟩
  obtain ⟨z0, y0⟩ := y0
  obtain ⟨z1, y1⟩ := y1
  obtain ⟨z2, y2⟩ := y2
  rw [y0] at q0; rw [y1] at q1; rw [y2] at q2
  obtain ⟨l⟩ := cs
  match l, hlen with
  | [v0, v1, v2, v3, v4, v5, v6, v7, v8, v9, v10], _ =>
    simp only [List.drop_zero, List.drop_succ_cons, List.take_succ_cons, List.take_zero] at q0 q1 q2
    obtain ⟨A, c, l, e0, s0, n0⟩ := open_cycs q0
    obtain ⟨xs, e1, e2⟩ := open_nint Try.underlying24 (by kernel_rfl) (by kernel_rfl) q1 rfl
    obtain ⟨xl, e3, e4⟩ := open_nint Try.underlying26 (by kernel_rfl) (by kernel_rfl) q2 rfl
    match xs, e1 with
    | [a, b, u], _ =>
      match xl, e3 with
      | [d, p, f, m, y, s, k], _ =>
        simp only [List.map_cons, List.map_nil, List.cons.injEq, and_true] at e0 e2 e4
        obtain ⟨rfl, rfl, rfl⟩ := e2
        obtain ⟨rfl, rfl, rfl, rfl, rfl, rfl, rfl⟩ := e4
        subst e0
        exact ⟨⟨A, c, l, ⟨a, b, u⟩, ⟨d, p, f, m, y, s, k⟩⟩, rfl, s0, n0⟩
end
end Go.Proofs.Ytfbnllmmoaialaa
namespace Go.Proofs.Ytfbnllmmoaialaa
open Go.RowKit Go.ChangeShapes Go.WideShapes Go.ChangeAt Go.Deep
section
variable {H : Type} {enc : TypeId × Value → H} {w : World} {base : Nat} {spare : Nat → Bool} {held : Bool}
theorem open_pair {n : Nat} {x0 x1 : Value} {y : DataW H × List MemPlace} (h : DataW.trod enc Try.prog w base spare held n 30 [x0, x1] = some y) : ∃ a b : Int, x0 = .int .i64 a ∧ x1 = .int .i64 b := by
  have hu : Try.prog.underlying 30 = some (.array 2 3) := by kernel_rfl
  have hC1 : Try.prog.cellsOf 3 = 1 := by kernel_rfl
  obtain ⟨xs, m, _, _, hl, hxl, hi⟩ := DataW.trod_array hu h
  have t0 := hi 0 (by omega); have t1 := hi 1 (by omega)
  rw [hC1, List.getElem?_eq_getElem (by omega)] at t0 t1
  simp at t0 t1
  obtain ⟨a, ha, _⟩ := DataW.trod_int (show Try.prog.underlying _ = some (.int .i64) by kernel_rfl) t0
  obtain ⟨b, hb, _⟩ := DataW.trod_int (show Try.prog.underlying _ = some (.int .i64) by kernel_rfl) t1
  simp only [List.cons.injEq, and_true] at ha hb
  exact ⟨a, b, ha, hb⟩
set_option maxRecDepth 100000 in
theorem arg_turns {W : World} {v : Value} {d : DataW H} {p : List MemPlace} {b0 : Nat} (hv : Value.okWide Try.prog W .any b0 32 v) (h : DataW.Trod enc Try.prog W 0 (fun _ => true) true 32 v d p) : ∃ a b c e f : Int, v = .agg #[.int .i64 a, .int .i64 b, .int .i64 c, .int .i64 e, .int .i64 f] := by
  obtain ⟨cs, rfl, hsz⟩ := okWide_struct Try.underlying32 hv
  obtain ⟨fuel, hf0⟩ := h
  have hC : Try.prog.cellsOf 32 = 5 := by kernel_rfl
  obtain ⟨ys, n', hn', hy, hlen, hyl, hf⟩ := DataW.trod_struct Try.underlying32 hf0
  have q0 : DataW.trod enc Try.prog W 0 (fun _ => true) true n' 30 (((Value.agg cs).cells.toList.drop 0).take (Try.prog.cellsOf 30)) = ys[0]? := hf 0 _ rfl
  have q1 : DataW.trod enc Try.prog W 0 (fun _ => true) true n' 30 (((Value.agg cs).cells.toList.drop 2).take (Try.prog.cellsOf 30)) = ys[1]? := hf 1 _ rfl
  have q2 : DataW.trod enc Try.prog W 0 (fun _ => true) true n' 3 (((Value.agg cs).cells.toList.drop 4).take (Try.prog.cellsOf 3)) = ys[2]? := hf 2 _ rfl
  simp only [Value.cells] at hlen q0 q1 q2
  have k0 : Try.prog.cellsOf 30 = 2 := by kernel_rfl
  have k2 : Try.prog.cellsOf 3 = 1 := by kernel_rfl
  rw [hC] at hlen
  rw [k0] at q0 q1; rw [k2] at q2
  have y0 : ∃ z, ys[0]? = some z := ⟨_, List.getElem?_eq_getElem (by rw [hyl]; decide)⟩
  have y1 : ∃ z, ys[1]? = some z := ⟨_, List.getElem?_eq_getElem (by rw [hyl]; decide)⟩
  have y2 : ∃ z, ys[2]? = some z := ⟨_, List.getElem?_eq_getElem (by rw [hyl]; decide)⟩
  obtain ⟨z0, y0⟩ := y0
  obtain ⟨z1, y1⟩ := y1
  obtain ⟨z2, y2⟩ := y2
  rw [y0] at q0; rw [y1] at q1; rw [y2] at q2
  obtain ⟨l⟩ := cs
  match l, hlen with
  | [v0, v1, v2, v3, v4], _ =>
    simp only [List.drop_zero, List.drop_succ_cons, List.take_succ_cons, List.take_zero] at q0 q1 q2
    obtain ⟨a, b, rfl, rfl⟩ := open_pair q0
    obtain ⟨c, e, rfl, rfl⟩ := open_pair q1
    obtain ⟨f, hf2, _⟩ := DataW.trod_int (show Try.prog.underlying _ = some (.int .i64) by kernel_rfl) q2
    simp only [List.cons.injEq, and_true] at hf2
    subst hf2
    exact ⟨a, b, c, e, f, rfl⟩
end
end Go.Proofs.Ytfbnllmmoaialaa
namespace Go.Proofs.Ytfbnllmmoaialaa
open Go.RowKit

theorem planX_any (x : Alm) (A2 : Option Addr) (c2 : Nat) (rs : List DRl) (s0 s1 g0 g1 T : Int) (w : World) (hl : x.cycles.length ≤ 1000000) (hc : Sl Cyc.cells 2 w w.heap.size x.a x.cycles) (hr : RlsAt w w.heap.size A2 rs) :
    Calls Try.prog 18 #[.agg x.cells.toArray, .slice A2 rs.length c2, .agg #[.int .i64 s0, .int .i64 s1], .agg #[.int .i64 g0, .int .i64 g1], .int .i64 T] w (RetSlE (planR x rs s0 s1 g0 g1 T).1 (planR x rs s0 s1 g0 g1 T).2 w) := by
  by_cases h : bothE x rs = 0 ∧ okP s0 s1 g0 g1 T = true
  · exact plan_ok x A2 c2 rs s0 s1 g0 g1 T w hl hc hr h.1 h.2
  · exact plan_err x A2 c2 rs s0 s1 g0 g1 T w hl hc hr h
theorem planV {x : Alm} {rs : List DRl} {s0 s1 g0 g1 T E : Int} {P : List Int} (h : planR x rs s0 s1 g0 g1 T = (P, E)) (hl : x.cycles.length ≤ 1000000) (A : Option Addr) (c : Nat) (A3 : Option Addr) (k3 : Nat) (l' : List DRl) (W : World) (hs : Sl Cyc.cells 2 W W.heap.size A x.cycles) (hr : RlsAt W W.heap.size A3 l') (hpl : l'.map DRl.pl = rs.map DRl.pl) :
    Calls Try.prog 18 #[.agg (Alm.cells ⟨A, c, x.cycles, x.sol, x.lun⟩).toArray, .slice A3 l'.length k3, .agg #[.int .i64 s0, .int .i64 s1], .agg #[.int .i64 g0, .int .i64 g1], .int .i64 T] W fun e w' => ∃ A4 q4, e = .returned (.tuple #[.slice A4 P.length q4, .int .i64 E]) ∧ Sl intCell 1 w' w'.heap.size A4 P ∧ (A4 = none → q4 = 0) ∧ Below W.heap.size W w' := by
  have h1 := planX_any (x.at_ A c) A3 k3 l' s0 s1 g0 g1 T W hl hs hr
  rw [planR_cong hpl, h] at h1
  exact h1
theorem nextV {x : Alm} {rs : List DRl} {fr to_ n E : Int} (h : nextR x rs fr to_ = (n, E)) (hl : x.cycles.length ≤ 1000000) (A : Option Addr) (c : Nat) (A3 : Option Addr) (k3 : Nat) (l' : List DRl) (W : World) (hs : Sl Cyc.cells 2 W W.heap.size A x.cycles) (hr : RlsAt W W.heap.size A3 l') (hpl : l'.map DRl.pl = rs.map DRl.pl) :
    Calls Try.prog 53 #[.agg (Alm.cells ⟨A, c, x.cycles, x.sol, x.lun⟩).toArray, .slice A3 l'.length k3, .int .i64 fr, .int .i64 to_] W fun e w' => e = .returned (.tuple #[.int .i64 n, .int .i64 E]) ∧ Below W.heap.size W w' := by
  have h1 := nextF_any (x.at_ A c) A3 k3 l' fr to_ W hl hs hr
  rw [nextR_cong hpl, h] at h1
  exact h1
theorem allowedV {x : Alm} {rs : List DRl} {day i E : Int} {ok : Bool} (h : allowedR x rs day = (ok, i, E)) (hl : x.cycles.length ≤ 1000000) (A : Option Addr) (c : Nat) (A3 : Option Addr) (k3 : Nat) (l' : List DRl) (W : World) (hs : Sl Cyc.cells 2 W W.heap.size A x.cycles) (hr : RlsAt W W.heap.size A3 l') (hpl : l'.map DRl.pl = rs.map DRl.pl) :
    Calls Try.prog 37 #[.agg (Alm.cells ⟨A, c, x.cycles, x.sol, x.lun⟩).toArray, .slice A3 l'.length k3, .int .i64 day] W fun e w' => e = .returned (.tuple #[.bool ok, .int .i64 i, .int .i64 E]) ∧ Below W.heap.size W w' := by
  have h1 := allowedF_any (x.at_ A c) A3 k3 l' day W hl hs hr
  rw [allowedR_cong hpl, h] at h1
  exact h1
end Go.Proofs.Ytfbnllmmoaialaa
namespace Go.Proofs.Ytfbnllmmoaialaa
open Go.RowKit

theorem daysN_len (x : Alm) (ps : List DPs) (fr : Int) (n : Nat) : (daysN x ps fr n).length ≤ n := by
  unfold daysN
  exact Nat.le_trans (List.length_filter_le _ _) (by simp)
/-- what holds at the head of the loop over days -/
def DyRel (x : Alm) (ps : List DPs) (fr : Int) (w : World) (n : Nat) (pl i : Value) (wr : World) : Prop := ∃ (k : Nat) (Ap : Option Addr) (cp : Nat), k ≤ n ∧ i = .int .i64 (fr + k) ∧ pl = .slice Ap (daysN x ps fr k).length cp ∧ Hid (wr.ownsRow (w.heap.size + 1) 3 1 pl (daysN x ps fr k).length ((daysN x ps fr k).map (Value.int .i64))) ∧ Hid (Below w.heap.size w wr) ∧ Blk wr w.heap.size x.cells.toArray 28
set_option maxRecDepth 100000 in
set_option maxHeartbeats 4000000 in
theorem rdays_any (x : Alm) (A2 : Option Addr) (c2 : Nat) (ps : List DPs) (fr to_ : Int) (w : World) (hx : almB x = true) (h0 : 0 ≤ fr) (hto : to_ ≤ 1000000) (hle : fr ≤ to_ + 1) (hsp : to_ - fr ≤ 4000) (hv : ∀ p ∈ ps, ∀ r ∈ p.rules, badR x.cycles r = false) (hcx : Sl Cyc.cells 2 w w.heap.size x.a x.cycles) (hr : PsA w w.heap.size A2 ps) :
    Calls Try.prog 24 #[.agg x.cells.toArray, .slice A2 ps.length c2, .int .i64 fr, .int .i64 to_] w fun e w' => ∃ A c, e = .returned (.slice A (daysL x ps fr to_).length c) ∧ Sl intCell 1 w' w'.heap.size A (daysL x ps fr to_) ∧ (A = none → c = 0) ∧ Below w.heap.size w w' := by
  have hlen := hr.len
  have HOF := Lib.hid (fun day (h1 : 0 ≤ day) (h2 : day ≤ 1000000) W => rof_any x day W hx h1 h2)
  have HAL := Lib.hid (fun day (h1 : 0 ≤ day) (h2 : day ≤ 1000000) W (hW : Below w.heap.size w W) => rallowed_any x A2 c2 ps day W hx h1 h2 hv ((hcx.below hW).more hW.size) ((hr.below hW).more hW.size))
  obtain ⟨n, hn⟩ : ∃ n : Nat, n = (to_ + 1 - fr).toNat := ⟨_, rfl⟩
  have HN := Lib.hid hn
  have hnI : (n : Int) = to_ + 1 - fr := by omega
  have HSU := Lib.hid (daysN_succ x ps fr)
  have HDL := Lib.hid (daysN_len x ps fr)
  have HD : Hid (daysL x ps fr to_ = daysN x ps fr n) := (by rw [hn]; rfl : daysL x ps fr to_ = _)
  have HNI := Lib.hid hnI
  clear hr hv hx hn hcx hnI
  obtain ⟨i0, hi, iz0, iz1, iz2⟩ := info_parts infoInt
  obtain ⟨A, c, l, ⟨e, b, u⟩, ⟨d, p, f, m, y, s, k⟩⟩ := x
  simp only [Alm.cells] at HOF HAL ⊢
  go_enter Try.func24, Try.ntmps24
  go_upto_region 1 with fail
  refine gen_w (fun W => Blk W w.heap.size #[.slice A l.length c, .int .i64 e, .int .i64 b, .int .i64 u, .int .i64 d, .int .i64 p, .int .i64 f, .int .i64 m, .int .i64 y, .int .i64 s, .int .i64 k] 28 ∧ Below w.heap.size w W) ⟨Blk.at_ rfl, by (repeat (first | exact Below.refl _ _ | assumption | (refine Below.alloc ?_ (by first | omega | (simp; omega) | (simp; done)) _) | (refine Below.setCell ?_ (by first | omega | (simp; omega) | (simp; done)) _) | (refine Below.drew ?_) | (refine belowN ?_ _) | (refine Below.trans ?_ (Below.mono ‹Below _ _ _› (by first | omega | (simp; omega) | (simp; done))))))⟩ ?_
  rintro V0 ⟨ga, hw⟩
  have hV0 : w.heap.size < V0.heap.size := ga.lt
  go_wp2_with fail
  go_loopw [9, 10] (fun pl i wr => DyRel ⟨A, c, l, ⟨e, b, u⟩, ⟨d, p, f, m, y, s, k⟩⟩ ps fr w n pl i wr) (fun _ i _ => (to_ + 1 - intOf i).toNat)
  case atStart =>
    refine ⟨0, _, _, by omega, by simp, rfl, ?_, hw.alloc hw.size _, ga.alloc _⟩
    exact World.ownsRow_made (e := 3) (size := 1) V0 #[] 0 (base := w.heap.size + 1) (by omega) (by simp) (by simp)
  case round =>
    clear hw ga hV0
    obtain ⟨q, Ap, cp, hq, rfl, rfl, HOW, hbw, ga⟩ := hrel
    have hw := hbw.out
    clear hbw
    have hdl := HDL.out q
    by_cases hlt : q < n
    · have hlt2 : fr + (q : Int) ≤ to_ := by have := HNI.out; omega
      have t1 : decide (fr + (q : Int) ≤ to_) = true := by simpa using hlt2
      have HO := Lib.hid (HOF.out (fr + q) (by omega) (by omega))
      have HA := Lib.hid (fun W (hW : Below wr.heap.size wr W) => HAL.out (fr + q) (by omega) (by omega) W (bl2 hw hW))
      have HS := Lib.hid (HSU.out q)
      obtain ⟨av, hav⟩ : ∃ v, v = allB ⟨A, c, l, ⟨e, b, u⟩, ⟨d, p, f, m, y, s, k⟩⟩ ps (fr + q) := ⟨_, rfl⟩
      rw [← hav] at HA HS
      obtain ⟨L, hL⟩ : ∃ L, L = daysN ⟨A, c, l, ⟨e, b, u⟩, ⟨d, p, f, m, y, s, k⟩⟩ ps fr q := ⟨_, rfl⟩
      rw [← hL] at HOW HS hdl ⊢
      have ga' : Blk wr w.heap.size #[.slice A l.length c, .int .i64 e, .int .i64 b, .int .i64 u, .int .i64 d, .int .i64 p, .int .i64 f, .int .i64 m, .int .i64 y, .int .i64 s, .int .i64 k] 28 := ga
      clear ga hav hL
      have ga := ga'
      clear ga'
      have z0 := ga.cell 0; have z1 := ga.cell 1; have z2 := ga.cell 2; have z3 := ga.cell 3; have z4 := ga.cell 4; have z5 := ga.cell 5; have z6 := ga.cell 6; have z7 := ga.cell 7; have z8 := ga.cell 8; have z9 := ga.cell 9; have z10 := ga.cell 10
      simp at z0 z1 z2 z3 z4 z5 z6 z7 z8 z9 z10
      have v1 : IntKind.i64.wrap (fr + (q : Int) + 1) = fr + (q : Int) + 1 := IntWalk.i64_in _ ⟨by omega, by omega⟩
      go_upto_region 5 with fail
      (refine wp_region_ext (by kernel_rfl) (by kernel_rfl) ?_; (repeat (go_big_quiet_step((first | (go_at_call 40; with_reducible exact Calls.ext_of (HO.out _)) | (go_at_call 66; with_reducible exact Calls.ext_of (HA.out _ (ext_below ⟨_, rfl⟩))))))); with_reducible refine wpQuiet_nil ?_; intro w1 hw1; have hb1 := ext_below hw1; clear hw1)
      have HBW : Hid (Below w.heap.size w w1) := (bl2 hw hb1 : Below w.heap.size w w1)
      have HGA : Hid (Blk w1 w.heap.size #[.slice A l.length c, .int .i64 e, .int .i64 b, .int .i64 u, .int .i64 d, .int .i64 p, .int .i64 f, .int .i64 m, .int .i64 y, .int .i64 s, .int .i64 k] 28) := (ga.below hb1 ga.lt : Blk w1 w.heap.size #[.slice A l.length c, .int .i64 e, .int .i64 b, .int .i64 u, .int .i64 d, .int .i64 p, .int .i64 f, .int .i64 m, .int .i64 y, .int .i64 s, .int .i64 k] 28)
      have HO1 : Hid (w1.ownsRow (w.heap.size + 1) 3 1 (.slice Ap L.length cp) L.length (L.map (Value.int .i64))) := HOW.out.kept (grown_none hb1) (by cases h : (Value.slice Ap L.length cp).ownBlock <;> simp)
      have hV1 : w.heap.size < w1.heap.size := HGA.out.lt
      clear hw hb1 ga z0 z1 z2 z3 z4 z5 z6 z7 z8 z9 z10 HO HA HOW
      cases av with
      | false =>
        have HS2 : Hid (daysN ⟨A, c, l, ⟨e, b, u⟩, ⟨d, p, f, m, y, s, k⟩⟩ ps fr (q + 1) = L) := (by rw [HS.out]; simp : _ = L)
        go_wp2_with fail
        go_roundw
        case rel => exact ⟨q + 1, Ap, cp, by omega, by rw [show fr + ((q + 1 : Nat) : Int) = fr + (q : Int) + 1 by omega], by rw [HS2.out], by rw [HS2.out]; exact HO1, HBW, HGA.out⟩
        case measure => simp only [intOf]; omega
      | true =>
        have HS2 : Hid (daysN ⟨A, c, l, ⟨e, b, u⟩, ⟨d, p, f, m, y, s, k⟩⟩ ps fr (q + 1) = L ++ [fr + (q : Int)]) := (by rw [HS.out]; simp : _ = _)
        obtain ⟨dy, hdy⟩ : ∃ z, z = fr + (q : Int) := ⟨_, rfl⟩
        have HDY := Lib.hid hdy
        rw [← hdy] at HS2 v1 ⊢
        clear hdy
        go_wp2_with (at_builtin; refine wpList_append_own _ rfl _ _ 38 rfl (w.heap.size + 1) 3 i0 (.int .i64 0) 1 8 uInts hi iz0 iz1 iz2 rfl (by decide) _ _ _ rfl (HO1.out.alloc _) ⟨w1.heap.size, 0, none⟩ 1 1 [.int .i64 dy] rfl rfl (cell_one_new _ _ _) (by simp [Value.oneCell']) (by unfold maxLen; omega) (by omega) (by simp; omega) ?_; intro v' w2 hown2 hgrow _; refine Hid.out ?_; obtain ⟨Ap', cp', rfl⟩ := own_slice hown2; have HO2 := Lib.hid hown2; have HB2 : Hid (Below w.heap.size w w2) := (HBW.out.alloc HBW.out.size _).grown hgrow (by have := HBW.out.size; simp; omega) (fun g hg => by have := (HO1.out.lt g hg).1; omega); have HG2 : Hid (Blk w2 w.heap.size #[.slice A l.length c, .int .i64 e, .int .i64 b, .int .i64 u, .int .i64 d, .int .i64 p, .int .i64 f, .int .i64 m, .int .i64 y, .int .i64 s, .int .i64 k] 28) := (HGA.out.alloc _).grown hgrow (fun hg => by have := (HO1.out.lt _ hg.symm).1; omega); clear hown2 hgrow; refine Lib.hid ?_)
        go_roundw
        case rel =>
          refine ⟨q + 1, Ap', cp', by omega, by rw [show fr + ((q + 1 : Nat) : Int) = fr + (q : Int) + 1 by omega, ← HDY.out], by rw [HS2.out]; simp, ?_, HB2, HG2.out⟩
          have h2 := HO2.out
          rw [HS2.out]
          show World.ownsRow _ _ _ _ _ _ _
          rw [List.length_append, List.length_singleton, List.map_append]
          exact h2
        case measure => have := HDY.out; simp only [intOf]; omega
    · obtain rfl : q = n := by omega
      have t1 : decide (fr + (q : Int) ≤ to_) = false := by have := HNI.out; simp; omega
      obtain ⟨A9, c9, e9, hs9, hz9⟩ := sl_of_ownN (f := intCell) (l := daysN ⟨A, c, l, ⟨e, b, u⟩, ⟨d, p, f, m, y, s, k⟩⟩ ps fr q) (by rw [flat_int]; exact HOW.out)
      have e9' : Ap = A9 ∧ cp = c9 := by simpa using e9
      obtain ⟨rfl, rfl⟩ := e9'
      have HS9 := Lib.hid hs9; have HZ9 := Lib.hid hz9
      clear HOW e9 hs9 hz9
      go_wp2_with fail
      go_ret
      exact ⟨Ap, cp, by rw [HD.out]; rfl, by rw [HD.out]; exact HS9.out, HZ9.out, hw⟩
end Go.Proofs.Ytfbnllmmoaialaa

/- School: all charts, as an iterator whose charts lie apart from what was there. -/
import Derived.Test.YtidlmbajpbbilaaScM
namespace Go.Proofs.Ytidlmbajpbbilaa
open Go.RowKit
attribute [local go_sem] Oper.semAt_some

/-- a slice in blocks from z on -/
def SlZ {α : Type} (f : α → List Value) (size z : Nat) (W : World) (A : Option Addr) (l : List α) : Prop := Sl f size W W.heap.size A l ∧ ∀ q, A = some q → z ≤ q.block
theorem Sl.of_ownZ {α : Type} {f : α → List Value} {size : Nat} {w : World} {base : Nat} {e : TypeId} {v : Value} {l : List α} (h : w.ownsRow base e size v l.length (flat f l)) :
    ∃ A c, v = .slice A l.length c ∧ Sl f size w w.heap.size A l ∧ ∀ q, A = some q → base ≤ q.block := by
  obtain ⟨A, c, hv, hsl⟩ := Sl.of_own h
  refine ⟨A, c, hv, hsl, fun q hq => ?_⟩
  subst hv
  exact (h.lt q.block (by rw [hq]; rfl)).1
theorem SlZ.stab {α : Type} {f : α → List Value} {B size z : Nat} (A : Option Addr) (l : List α) : Stab B (fun W => SlZ f size z W A l) := (Stab.sl A l).and (Stab.pure _)
theorem SlZ.keep {α : Type} {f : α → List Value} {size z : Nat} {W W' : World} {A : Option Addr} {l : List α} (h : SlZ f size z W A l) (hk : ∀ p : Addr, z ≤ p.block → p.block < W.heap.size → W'.cell? p = W.cell? p) (hz : W.heap.size ≤ W'.heap.size) : SlZ f size z W' A l :=
  ⟨⟨h.1.1, fun hn => by
    obtain ⟨b, o, e, hb, hc⟩ := h.1.2 hn
    exact ⟨b, o, e, by omega, fun j u hu => (hk ⟨b, o + j, none⟩ (h.2 ⟨b, o, none⟩ e) hb).trans (hc j u hu)⟩⟩, h.2⟩
def EncChartB (s : Sch) (z : Nat) (k : Nat) (W : World) (xs : Array Value) : Prop :=
  ∃ A c, xs = #[.int .i64 (k : Int), .slice A s.places.toNat c] ∧ SlZ intCell 1 z W A (chartL s k)

set_option maxRecDepth 100000 in
set_option maxHeartbeats 1000000 in
theorem all1_iterB (z : Nat) (s : Sch) (R : Value) (B : Nat) (hs : Small s) (hc : chartsN s.signs s.places.toNat ≤ 4096) :
    Iter 85 #[.pointer (some ⟨B, 0, none⟩)] (fun W => ScBox W B s R ∧ z ≤ W.heap.size) (EncChartB s z) (chartsN s.signs s.places.toNat).toNat := by
  intro l J Jx W hJs hJxs hJD hY h0
  have hcb := chartsN_bd s.signs hs.2.2.1 s.places.toNat
  obtain ⟨N, hN⟩ := Int.eq_ofNat_of_zero_le (a := chartsN s.signs s.places.toNat) (by omega)
  have HC := fun W => Lib.hid (hN ▸ charts_any s R hs.1 hs.2.1 hs.2.2.1 hs.2.2.2 W)
  have HCH := fun (k : Nat) (hk : k ≤ 4096) W => Lib.hid (chart_any s R (k : Int) hs (by omega) (by omega) W)
  rw [hN] at hY hc ⊢
  simp only [Int.toNat_natCast] at hY ⊢
  have HJs := Lib.hid hJs; have HJD := Lib.hid hJD; have HY := Lib.hid hY
  have hbx := (hJD 0 W h0).1
  obtain ⟨hB, b0, b1, b2, b3, b4⟩ := hbx
  have H0 := Lib.hid h0
  have hcs : N ≤ 4096 := by omega
  clear hJs hJD hY h0 hN hcb hc hJxs
  obtain ⟨pl, sg, kk, aa, ra, rc, rs⟩ := s
  simp only at *
  rw [← callsIn_wide (n := 2)]
  refine callsIn_of_wp Try.func85 rfl trivial ?_ rfl
  simp only [Try.ntmps85, List.size_toArray, List.length_cons, List.length_nil, Nat.reduceAdd, Nat.reduceSub, Array.replicate_succ, Array.replicate_zero, List.push_toArray, List.append_toArray, List.nil_append, List.cons_append]
  gi_wp2
  refine ⟨trivial, (callsIn_wide.2 (HC _).out).mono ?_⟩
  rintro e w1 ⟨rfl, hb1⟩
  have HJ1 := Lib.hid (HJs.out 0 W w1 H0.out hb1)
  gi_wp2
  gi_loopw [6] (fun i wr => ∃ k : Nat, k ≤ N ∧ i = .int .i64 k ∧ Hid (J k wr)) (fun i _ => N - (intOf i).toNat)
  case atStart => exact ⟨0, by omega, rfl, HJ1⟩
  case round =>
    obtain ⟨k, hk, rfl, hj⟩ := hrel
    obtain ⟨⟨hB', q0, q1, q2, q3, q4⟩, hz⟩ := HJD.out k wr hj.out
    by_cases hlt : k < N
    · gi_wp2
      refine ⟨trivial, (callsIn_wide.2 (HCH k (by omega) _).out).mono ?_⟩
      rintro e w2 ⟨v, rfl, hown, hb2⟩
      have hj2 := HJs.out k wr w2 hj.out hb2
      obtain ⟨A, c, rfl, hsl, hzz⟩ := Sl.of_ownZ hown
      rw [digits_len] at *
      obtain ⟨fn, tmps, assign, body, hy, hR⟩ := HY.out k w2 #[.int .i64 (k : Int), .slice A pl.toNat c] hlt hj2 ⟨A, c, rfl, hsl, fun q hq => Nat.le_trans hz (hzz q hq)⟩
      have HRR := Lib.hid hR
      clear hown hsl hzz hR hj2 hb2
      gi_wp2
      refine HRR.out.mono ?_
      rintro e W3 (⟨rfl, hJ3⟩ | ⟨rfl, hJx3⟩)
      · have HJ3 := Lib.hid hJ3
        clear hJ3
        gi_wp2
        go_roundw
        case rel => exact ⟨k + 1, by omega, by go_num, HJ3⟩
        case measure => simp [intOf]; omega
      · have HJ3 := Lib.hid hJx3
        clear hJx3
        gi_wp2
        refine bodyPost_ret (results_none rfl _ _ _) rfl ?_
        exact ⟨⟨_, rfl⟩, .inr HJ3.out⟩
    · obtain rfl : k = N := by omega
      gi_wp2
      go_end0
      exact ⟨⟨_, rfl⟩, .inl hj.out⟩

end Go.Proofs.Ytidlmbajpbbilaa

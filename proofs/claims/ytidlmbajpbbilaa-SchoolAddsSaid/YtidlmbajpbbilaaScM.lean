/- School: all charts, as an iterator. -/
import Derived.Test.YtidlmbajpbbilaaScL
import Derived.Test.YtidlmbajpbbilaaIter
namespace Go.Proofs.Ytidlmbajpbbilaa
open Go.RowKit
attribute [local go_sem] Oper.semAt_some

/-- what a round over all charts is handed -/
def EncChart (s : Sch) (k : Nat) (W : World) (xs : Array Value) : Prop :=
  ∃ A c, xs = #[.int .i64 (k : Int), .slice A s.places.toNat c] ∧ Sl intCell 1 W W.heap.size A (chartL s k)
theorem ent_all1 : Ent 85 := ent_of Try.func85 (by kernel_rfl) rfl

set_option maxRecDepth 100000 in
set_option maxHeartbeats 1000000 in
theorem all1_iter (s : Sch) (R : Value) (B : Nat) (hs : Small s) (hc : chartsN s.signs s.places.toNat ≤ 4096) :
    Iter 85 #[.pointer (some ⟨B, 0, none⟩)] (fun W => ScBox W B s R) (EncChart s) (chartsN s.signs s.places.toNat).toNat := by
  intro l J Jx W hJs hJxs hJD hY h0
  have hcb := chartsN_bd s.signs hs.2.2.1 s.places.toNat
  obtain ⟨N, hN⟩ := Int.eq_ofNat_of_zero_le (a := chartsN s.signs s.places.toNat) (by omega)
  have HC := fun W => Lib.hid (hN ▸ charts_any s R hs.1 hs.2.1 hs.2.2.1 hs.2.2.2 W)
  have HCH := fun (k : Nat) (hk : k ≤ 4096) W => Lib.hid (chart_any s R (k : Int) hs (by omega) (by omega) W)
  rw [hN] at hY hc ⊢
  simp only [Int.toNat_natCast] at hY ⊢
  have HJs := Lib.hid hJs; have HJD := Lib.hid hJD; have HY := Lib.hid hY
  have hbx := (hJD 0 W h0)
  obtain ⟨hB, b0, b1, b2, b3, b4⟩ := hbx
  have H0 := Lib.hid h0
  have hcs : N ≤ 4096 := by omega
  clear hJs hJD hY h0 hN hcb hc hJxs
  obtain ⟨pl, sg, kk, aa, ra, rc, rs⟩ := s
  simp only at *
  rw [← callsIn_wide (n := 2)]
  refine callsIn_of_wp Try.func85 rfl trivial ?_ rfl
  simp only [Try.ntmps85, List.size_toArray, List.length_cons, List.length_nil, Nat.reduceAdd, Nat.reduceSub, Array.replicate_succ, Array.replicate_zero, List.push_toArray, List.append_toArray, List.nil_append, List.cons_append]
  gi_wp2
  refine ⟨trivial, (callsIn_wide.2 (HC _).out).mono ?_⟩
  rintro e w1 ⟨rfl, hb1⟩
  have HJ1 := Lib.hid (HJs.out 0 W w1 H0.out hb1)
  gi_wp2
  gi_loopw [6] (fun i wr => ∃ k : Nat, k ≤ N ∧ i = .int .i64 k ∧ Hid (J k wr)) (fun i _ => N - (intOf i).toNat)
  case atStart => exact ⟨0, by omega, rfl, HJ1⟩
  case round =>
    obtain ⟨k, hk, rfl, hj⟩ := hrel
    obtain ⟨hB', q0, q1, q2, q3, q4⟩ := HJD.out k wr hj.out
    by_cases hlt : k < N
    · gi_wp2
      refine ⟨trivial, (callsIn_wide.2 (HCH k (by omega) _).out).mono ?_⟩
      rintro e w2 ⟨v, rfl, hown, hb2⟩
      have hj2 := HJs.out k wr w2 hj.out hb2
      obtain ⟨A, c, rfl, hsl⟩ := Sl.of_own hown
      rw [digits_len] at *
      obtain ⟨fn, tmps, assign, body, hy, hR⟩ := HY.out k w2 #[.int .i64 (k : Int), .slice A pl.toNat c] hlt hj2 ⟨A, c, rfl, hsl⟩
      have HRR := Lib.hid hR
      clear hown hsl hR hj2 hb2
      gi_wp2
      refine HRR.out.mono ?_
      rintro e W3 (⟨rfl, hJ3⟩ | ⟨rfl, hJx3⟩)
      · have HJ3 := Lib.hid hJ3
        clear hJ3
        gi_wp2
        go_roundw
        case rel => exact ⟨k + 1, by omega, by go_num, HJ3⟩
        case measure => simp [intOf]; omega
      · have HJ3 := Lib.hid hJx3
        clear hJx3
        gi_wp2
        refine bodyPost_ret (results_none rfl _ _ _) rfl ?_
        exact ⟨⟨_, rfl⟩, .inr HJ3.out⟩
    · obtain rfl : k = N := by omega
      gi_wp2
      go_end0
      exact ⟨⟨_, rfl⟩, .inl hj.out⟩

theorem all_any (s : Sch) (R : Value) (w : World) : Calls Try.prog 53 #[scv s R] w fun e w' => e = .returned (.func (.func 85) #[] #[.pointer (some ⟨w.heap.size, 0, none⟩)]) ∧ w.alloc (.cells #[.int .i64 s.places, .int .i64 s.signs, .int .i64 s.kinds, .int .i64 s.answers, R] 24) = w' := by
  go_enter Try.func53, Try.ntmps53
  go_wp2
  go_ret
  exact ⟨rfl, rfl⟩
end Go.Proofs.Ytidlmbajpbbilaa

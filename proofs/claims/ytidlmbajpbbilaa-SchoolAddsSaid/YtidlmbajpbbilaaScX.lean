/- School: the rules from the last one to the first one, as an iterator. -/
import Derived.Test.YtidlmbajpbbilaaScW
namespace Go.Proofs.Ytidlmbajpbbilaa
open Go.RowKit
attribute [local go_sem] Oper.semAt_some

def EncBack (s : Sch) (k : Nat) (_ : World) (xs : Array Value) : Prop := ∃ q r, q + 1 + k = s.rules.length ∧ s.rules[q]? = some r ∧ xs = #[.int .i64 (q : Int), rlv r]
theorem ent_bw1 : Ent 94 := ent_of Try.func94 (by kernel_rfl) rfl
set_option maxRecDepth 100000 in
set_option maxHeartbeats 1000000 in
theorem bw1_iter (s : Sch) (B : Nat) (hl : s.rules.length ≤ 30) :
    Iter 94 #[.pointer (some ⟨B, 0, none⟩)] (fun W => B < W.heap.size ∧ W.cell? ⟨B, 0, none⟩ = some s.rv ∧ Sl Rul.cells 5 W W.heap.size s.ra s.rules) (EncBack s) s.rules.length := by
  intro l J Jx W hJs hJxs hJD hY h0
  have HJs := Lib.hid hJs; have HJD := Lib.hid hJD; have HY := Lib.hid hY
  obtain ⟨hB, b0, _⟩ := hJD 0 W h0
  have H0 := Lib.hid h0
  clear hJs hJD hY h0 hJxs
  obtain ⟨n, hn⟩ : ∃ n, n = s.rules.length := ⟨_, rfl⟩
  have hrv : s.rv = .slice s.ra n s.rc := by rw [hn]
  rw [hrv] at b0
  rw [← hn] at HY hl ⊢
  have HN := Lib.hid hn
  have HRV := Lib.hid hrv
  clear hn hrv
  rw [← callsIn_wide (n := 2)]
  refine callsIn_of_wp Try.func94 rfl trivial ?_ rfl
  simp only [Try.ntmps94, List.size_toArray, List.length_cons, List.length_nil, Nat.reduceAdd, Nat.reduceSub, Array.replicate_succ, Array.replicate_zero, List.push_toArray, List.append_toArray, List.nil_append, List.cons_append]
  gi_wp2
  gi_loopw [3] (fun i wr => ∃ m : Nat, m ≤ n ∧ i = .int .i64 ((m : Int) - 1) ∧ Hid (J (n - m) wr)) (fun i _ => (intOf i + 1).toNat)
  case atStart => exact ⟨n, by omega, rfl, by rw [Nat.sub_self]; exact H0⟩
  case round =>
    obtain ⟨m, hm, rfl, hj⟩ := hrel
    cases m with
    | zero =>
      have hjn : Hid (J n wr) := hj
      gi_wp2
      go_end0
      exact ⟨⟨_, rfl⟩, .inl hjn.out⟩
    | succ q =>
      rw [show (((q + 1 : Nat) : Int) - 1) = (q : Int) by omega]
      obtain ⟨hB', q0, hsl⟩ := HJD.out _ wr hj.out
      rw [HRV.out] at q0
      obtain ⟨ab, ao, hra, hblk, hcell⟩ := hsl.at_ (k := q) (fun _ => rfl) (by rw [← HN.out]; omega)
      rw [hra] at q0
      have hge : s.rules[q]? = some s.rules[q] := List.getElem?_eq_getElem _
      obtain ⟨r, hr⟩ : ∃ r, r = s.rules[q]'(by rw [← HN.out]; omega) := ⟨_, rfl⟩
      rw [← hr] at hcell hge
      have c0 : wr.cell? ⟨ab, ao + q * 5, none⟩ = some (.slice r.wa r.when_.length r.wc) := hcell 0 _ rfl
      have c1 : wr.cell? ⟨ab, ao + q * 5 + 1, none⟩ = some (.int .i64 r.kinds) := hcell 1 _ rfl
      have c2 : wr.cell? ⟨ab, ao + q * 5 + 2, none⟩ = some (.int .i64 r.rank) := hcell 2 _ rfl
      have c3 : wr.cell? ⟨ab, ao + q * 5 + 3, none⟩ = some (.slice r.ua r.unless_.length r.uc) := hcell 3 _ rfl
      have c4 : wr.cell? ⟨ab, ao + q * 5 + 4, none⟩ = some (.int .i64 r.says) := hcell 4 _ rfl
      have hq0 : (0 : Int) ≤ (q : Int) := by omega
      have hq1 : (q : Int) < (n : Int) := by omega
      obtain ⟨fn, tmps, assign, body, hy, hR⟩ := HY.out (n - (q + 1)) wr #[.int .i64 (q : Int), rlv r] (by omega) hj.out ⟨q, r, by rw [← HN.out]; omega, hge, rfl⟩
      have HRR := Lib.hid hR
      rw [show n - (q + 1) + 1 = n - q by omega] at HRR
      clear hr hge hra hcell hsl hR hj
      gi_wp2
      refine HRR.out.mono ?_
      rintro e W3 (⟨rfl, hJ3⟩ | ⟨rfl, hJx3⟩)
      · have HJ3 := Lib.hid hJ3
        clear hJ3
        gi_wp2
        go_roundw
        case rel => exact ⟨q, by omega, rfl, HJ3⟩
        case measure => simp [intOf]
      · have HJ3 := Lib.hid hJx3
        clear hJx3
        gi_wp2
        refine bodyPost_ret (results_none rfl _ _ _) rfl ?_
        exact ⟨⟨_, rfl⟩, .inr HJ3.out⟩
end Go.Proofs.Ytidlmbajpbbilaa

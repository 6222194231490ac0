/- odds: Equal (the library's, the reference's), among, Total, Lowest, Same. -/
import Derived.Test.YtmfbiohdmhbkoaaGd
namespace Go.Proofs.Ytmfbiohdmhbkoaa
open Go.RowKit

theorem eq_drop (a b : List Int) (k : Nat) (h : k < a.length) (h' : k < b.length) : (a.drop k == b.drop k) = (a[k] == b[k] && a.drop (k + 1) == b.drop (k + 1)) := by
  rw [List.drop_eq_getElem_cons h, List.drop_eq_getElem_cons h']; rfl
set_option maxRecDepth 100000 in
set_option maxHeartbeats 1000000 in
theorem equal_any (A A2 : Option Addr) (c c2 : Nat) (a b : List Int) (w : World) (hl : a.length ≤ 1000000000) (hr : Sl intCell 1 w w.heap.size A a) (hr2 : Sl intCell 1 w w.heap.size A2 b) :
    Calls Try.prog 87 #[.slice A a.length c, .slice A2 b.length c2] w fun e w' => e = .returned (.bool (a == b)) ∧ Below w.heap.size w w' := by
  by_cases hlen : a.length = b.length
  · have hd : ((a.length : Int) != (b.length : Int)) = false := by simp [hlen]
    have HR := Lib.hid hr; have HR2 := Lib.hid hr2
    have hn1 : a.length ≤ b.length := by omega
    have hn2 : b.length ≤ a.length := by omega
    clear hr hr2 hlen
    go_enter Try.func87, Try.ntmps87
    go_wp2
    go_loopw [13] (fun i wr => ∃ k : Nat, k ≤ a.length ∧ i = .int .i64 k ∧ Below w.heap.size w wr ∧ Hid ((a == b) = (a.drop k == b.drop k))) (fun i _ => a.length - (intOf i).toNat)
    case atStart => exact ⟨0, by omega, rfl, Below.refl _ _, rfl⟩
    case round =>
      obtain ⟨k, hk, rfl, hb, HA⟩ := hrel
      have hsz := hb.size
      by_cases hlt : k < a.length
      · have hlt2 : k < b.length := by omega
        have HD := Lib.hid (eq_drop a b k hlt hlt2)
        obtain ⟨ab, ao, rfl, hblk, c0⟩ := (HR.out.below hb).int_at hlt
        obtain ⟨cb, co, rfl, hblk2, c1⟩ := (HR2.out.below hb).int_at hlt2
        obtain ⟨x, hx⟩ : ∃ t, a[k] = t := ⟨_, rfl⟩
        obtain ⟨y, hy⟩ : ∃ t, b[k] = t := ⟨_, rfl⟩
        rw [hx] at c0 HD
        rw [hy] at c1 HD
        have hj0 : (0 : Int) ≤ (k : Int) := by omega
        have hj1 : (k : Int) < (a.length : Int) := by omega
        have hj2 : (k : Int) < (b.length : Int) := by omega
        clear hx hy
        by_cases f1 : (x == y) = true
        · have f2 : (x != y) = false := by simp only [beq_iff_eq] at f1; simp [f1]
          have HT : Hid ((a == b) = (a.drop (k + 1) == b.drop (k + 1))) := (by rw [HA.out, HD.out, f1]; rfl : (a == b) = (a.drop (k + 1) == b.drop (k + 1)))
          clear f1
          go_wp2
          (refine wp_region_ext (by kernel_rfl) (by kernel_rfl) ?_; (repeat (go_big_quiet_step((fail)))); with_reducible refine wpQuiet_nil ?_; intro w1 hw1; have hb1 := ext_below hw1; clear hw1)
          go_wp2
          go_roundw
          case rel => exact ⟨k + 1, by omega, by go_num, hb.trans (hb1.mono hsz), HT⟩
          case measure => simp [intOf]; omega
        · simp only [Bool.not_eq_true] at f1
          have f2 : (x != y) = true := by simpa using f1
          have HT : Hid ((a == b) = false) := (by rw [HA.out, HD.out, f1]; rfl : (a == b) = false)
          clear f1
          go_wp2
          (refine wp_region_ext (by kernel_rfl) (by kernel_rfl) ?_; (repeat (go_big_quiet_step((fail)))); with_reducible refine wpQuiet_nil ?_; intro w1 hw1; have hb1 := ext_below hw1; clear hw1)
          go_wp2
          go_ret
          exact ⟨ret_bool HT.out.symm, hb.trans (hb1.mono hsz)⟩
      · have HT : Hid ((a == b) = true) := (by rw [HA.out, List.drop_eq_nil_of_le (by omega : a.length ≤ k), List.drop_eq_nil_of_le (by omega : b.length ≤ k)]; rfl : (a == b) = true)
        go_wp2
        go_ret
        exact ⟨ret_bool HT.out.symm, hb⟩
  · have hd : ((a.length : Int) != (b.length : Int)) = true := by simp; omega
    have HT : Hid ((a == b) = false) := (by simp only [beq_eq_false_iff_ne, ne_eq]; intro h; exact hlen (by rw [h]) : (a == b) = false)
    clear hlen hr hr2
    go_enter Try.func87, Try.ntmps87
    go_wp2
    go_ret
    exact ⟨ret_bool HT.out.symm, Below.refl _ _⟩
set_option maxRecDepth 100000 in
set_option maxHeartbeats 1000000 in
theorem requal_any (A A2 : Option Addr) (c c2 : Nat) (a b : List Int) (w : World) (hl : a.length ≤ 1000000000) (hr : Sl intCell 1 w w.heap.size A a) (hr2 : Sl intCell 1 w w.heap.size A2 b) :
    Calls Try.prog 20 #[.slice A a.length c, .slice A2 b.length c2] w fun e w' => e = .returned (.bool (a == b)) ∧ Below w.heap.size w w' := by
  by_cases hlen : a.length = b.length
  · have hd : ((a.length : Int) != (b.length : Int)) = false := by simp [hlen]
    have HR := Lib.hid hr; have HR2 := Lib.hid hr2
    have hn1 : a.length ≤ b.length := by omega
    have hn2 : b.length ≤ a.length := by omega
    clear hr hr2 hlen
    go_enter Try.func20, Try.ntmps20
    go_wp2
    go_loopw [5] (fun i wr => ∃ k : Nat, k ≤ a.length ∧ i = .int .i64 k ∧ Below w.heap.size w wr ∧ Hid ((a == b) = (a.drop k == b.drop k))) (fun i _ => a.length - (intOf i).toNat)
    case atStart => exact ⟨0, by omega, rfl, Below.refl _ _, rfl⟩
    case round =>
      obtain ⟨k, hk, rfl, hb, HA⟩ := hrel
      have hsz := hb.size
      by_cases hlt : k < a.length
      · have hlt2 : k < b.length := by omega
        have HD := Lib.hid (eq_drop a b k hlt hlt2)
        obtain ⟨ab, ao, rfl, hblk, c0⟩ := (HR.out.below hb).int_at hlt
        obtain ⟨cb, co, rfl, hblk2, c1⟩ := (HR2.out.below hb).int_at hlt2
        obtain ⟨x, hx⟩ : ∃ t, a[k] = t := ⟨_, rfl⟩
        obtain ⟨y, hy⟩ : ∃ t, b[k] = t := ⟨_, rfl⟩
        rw [hx] at c0 HD
        rw [hy] at c1 HD
        have hj0 : (0 : Int) ≤ (k : Int) := by omega
        have hj1 : (k : Int) < (a.length : Int) := by omega
        have hj2 : (k : Int) < (b.length : Int) := by omega
        clear hx hy
        by_cases f1 : (x == y) = true
        · have f2 : (x != y) = false := by simp only [beq_iff_eq] at f1; simp [f1]
          have HT : Hid ((a == b) = (a.drop (k + 1) == b.drop (k + 1))) := (by rw [HA.out, HD.out, f1]; rfl : (a == b) = (a.drop (k + 1) == b.drop (k + 1)))
          clear f1
          go_wp2
          (refine wp_region_ext (by kernel_rfl) (by kernel_rfl) ?_; (repeat (go_big_quiet_step((fail)))); with_reducible refine wpQuiet_nil ?_; intro w1 hw1; have hb1 := ext_below hw1; clear hw1)
          go_wp2
          go_roundw
          case rel => exact ⟨k + 1, by omega, by go_num, hb.trans (hb1.mono hsz), HT⟩
          case measure => simp [intOf]; omega
        · simp only [Bool.not_eq_true] at f1
          have f2 : (x != y) = true := by simpa using f1
          have HT : Hid ((a == b) = false) := (by rw [HA.out, HD.out, f1]; rfl : (a == b) = false)
          clear f1
          go_wp2
          (refine wp_region_ext (by kernel_rfl) (by kernel_rfl) ?_; (repeat (go_big_quiet_step((fail)))); with_reducible refine wpQuiet_nil ?_; intro w1 hw1; have hb1 := ext_below hw1; clear hw1)
          go_wp2
          go_ret
          exact ⟨ret_bool HT.out.symm, hb.trans (hb1.mono hsz)⟩
      · have HT : Hid ((a == b) = true) := (by rw [HA.out, List.drop_eq_nil_of_le (by omega : a.length ≤ k), List.drop_eq_nil_of_le (by omega : b.length ≤ k)]; rfl : (a == b) = true)
        go_wp2
        go_ret
        exact ⟨ret_bool HT.out.symm, hb⟩
  · have hd : ((a.length : Int) != (b.length : Int)) = true := by simp; omega
    have HT : Hid ((a == b) = false) := (by simp only [beq_eq_false_iff_ne, ne_eq]; intro h; exact hlen (by rw [h]) : (a == b) = false)
    clear hlen hr hr2
    go_enter Try.func20, Try.ntmps20
    go_wp2
    go_ret
    exact ⟨ret_bool HT.out.symm, Below.refl _ _⟩

theorem amongF_drop (n next : Int) (l : List Int) (k : Nat) (h : k < l.length) : amongF n next (l.drop k) = (decide (next ≤ l[k]) && decide (l[k] < n) && amongF n (l[k] + 1) (l.drop (k + 1))) := by
  rw [List.drop_eq_getElem_cons h]; rfl
set_option maxHeartbeats 1000000 in
theorem among_any (A : Option Addr) (c : Nat) (l : List Int) (n : Int) (w : World) (hm : l.length ≤ 1000000000) (h0 : 0 ≤ n) (h1 : n ≤ 1000000000) (hr : Sl intCell 1 w w.heap.size A l) :
    Calls Try.prog 95 #[.slice A l.length c, .int .i64 n] w fun e w' => e = .returned (.bool (amongB l n)) ∧ w = w' := by
  have HR := Lib.hid hr
  clear hr
  obtain ⟨v, hv⟩ : ∃ v, v = amongB l n := ⟨_, rfl⟩
  have HV := Lib.hid hv
  rw [← hv]
  clear hv
  go_enter Try.func95, Try.ntmps95
  go_wp2
  go_loop [5, 10] (fun v' i => ∃ (k : Nat) (next : Int), k ≤ l.length ∧ i = .int .i64 k ∧ v' = .int .i64 next ∧ 0 ≤ next ∧ next ≤ n ∧ Hid (v = amongF n next (l.drop k))) (fun _ i => l.length - (intOf i).toNat)
  case atStart => exact ⟨0, 0, by omega, rfl, rfl, by omega, by omega, HV⟩
  case round =>
    obtain ⟨k, next, hk, rfl, rfl, n0, n1, HA⟩ := hrel
    by_cases hlt : k < l.length
    · obtain ⟨b, o, rfl, hb, hc⟩ := HR.out.int_at hlt
      have HD := Lib.hid (amongF_drop n next l k hlt)
      obtain ⟨x, hx⟩ : ∃ x, x = l[k] := ⟨_, rfl⟩
      rw [← hx] at hc HD
      clear hx
      by_cases f0 : x < next
      · have e0 : decide (x < next) = true := by simpa using f0
        have HT : Hid (v = false) := (by rw [HA.out, HD.out, show decide (next ≤ x) = false by simp; omega]; rfl : v = false)
        clear f0
        go_wp2
        go_ret
        exact ⟨ret_bool HT.out.symm, rfl⟩
      · have e0 : decide (x < next) = false := by simp; omega
        by_cases f1 : n ≤ x
        · have e1 : decide (n ≤ x) = true := by simpa using f1
          have HT : Hid (v = false) := (by rw [HA.out, HD.out, show decide (x < n) = false by simp; omega]; simp : v = false)
          clear f0 f1
          go_wp2
          go_ret
          exact ⟨ret_bool HT.out.symm, rfl⟩
        · have e1 : decide (n ≤ x) = false := by simp; omega
          have y0 : 0 ≤ x := by omega
          have y1 : x < n := by omega
          have HT : Hid (v = amongF n (x + 1) (l.drop (k + 1))) := (by rw [HA.out, HD.out, show decide (next ≤ x) = true by simp; omega, show decide (x < n) = true by simp; omega]; rfl : v = amongF n (x + 1) (l.drop (k + 1)))
          clear f0 f1
          go_wp2
          go_round
          case rel => exact ⟨k + 1, x + 1, by omega, by go_num, rfl, by omega, by omega, HT⟩
          case measure => simp [intOf]; omega
    · obtain rfl : k = l.length := by omega
      have HT : Hid (v = true) := (by rw [HA.out, List.drop_length]; rfl : v = true)
      go_wp2
      go_ret
      exact ⟨ret_bool HT.out.symm, rfl⟩
/-- an integer and an error are returned -/
def Ret2 (a er : Int) (w : World) (e : Ending) (w' : World) : Prop := e = .returned (.tuple #[.int .i64 a, .int .i64 er]) ∧ Below w.heap.size w w'
def totalR (l : List Int) : Int × Int := if errW l = 0 then (sumL l, 0) else (0, errW l)
theorem total_any (A : Option Addr) (c : Nat) (l : List Int) (w : World) (hm : l.length ≤ 1000000000) (hr : Sl intCell 1 w w.heap.size A l) :
    Calls Try.prog 32 #[.slice A l.length c] w (Ret2 (totalR l).1 (totalR l).2 w) := by
  have HC := Lib.hid (check_any A c l w hm hr)
  by_cases he : errW l = 0
  · have ok := errW_zero.1 he
    have HS := Lib.hid (sum_any A c l w (by have := ok.len; omega) ok.nn (by have := ok.le; omega) hr)
    have HE := Lib.hid he
    have HT : Hid (totalR l = (sumL l, 0)) := (by unfold totalR; rw [if_pos he] : totalR l = (sumL l, 0))
    clear he ok hr
    go_enter Try.func32, Try.ntmps32
    go_wp2_with fail
    refine HC.out.mono ?_
    rintro _ _ ⟨rfl, rfl⟩
    rw [HE.out]
    go_wp2_with fail
    refine HS.out.mono ?_
    rintro _ _ ⟨rfl, rfl⟩
    go_wp2
    go_ret2
    rw [HT.out]
    exact ⟨rfl, Below.refl _ _⟩
  · have hb : (errW l != 0) = true := by simpa using he
    have HT : Hid (totalR l = (0, errW l)) := (by unfold totalR; rw [if_neg he] : totalR l = _)
    obtain ⟨ev, hev⟩ : ∃ ev, ev = errW l := ⟨_, rfl⟩
    rw [← hev] at HC hb HT
    clear he hr hev
    go_enter Try.func32, Try.ntmps32
    go_wp2_with fail
    refine HC.out.mono ?_
    rintro _ _ ⟨rfl, rfl⟩
    go_wp2
    go_ret2
    rw [HT.out]
    exact ⟨rfl, Below.refl _ _⟩
def lowestR (l : List Int) : List Int × Int := if errW l = 0 then (lowL l, 0) else ([], errW l)
theorem lowestF_any (A : Option Addr) (c : Nat) (l : List Int) (w : World) (hm : l.length ≤ 1000000000) (hr : Sl intCell 1 w w.heap.size A l) :
    Calls Try.prog 33 #[.slice A l.length c] w (RetSlE (lowestR l).1 (lowestR l).2 w) := by
  have HC := Lib.hid (check_any A c l w hm hr)
  by_cases he : errW l = 0
  · have ok := errW_zero.1 he
    have HS := Lib.hid (lowest_any A c l w ok hr)
    have HE := Lib.hid he
    have HT : Hid (lowestR l = (lowL l, 0)) := (by unfold lowestR; rw [if_pos he] : lowestR l = (lowL l, 0))
    clear he ok hr
    go_enter Try.func33, Try.ntmps33
    go_wp2_with fail
    refine HC.out.mono ?_
    rintro _ _ ⟨rfl, rfl⟩
    rw [HE.out]
    go_wp2_with fail
    refine HS.out.mono ?_
    rintro _ _ ⟨B, d, rfl, hs, hz, hb⟩
    go_wp2
    go_ret2
    rw [HT.out]
    exact ⟨B, d, rfl, hs, hz, hb⟩
  · have hb : (errW l != 0) = true := by simpa using he
    have HT : Hid (lowestR l = ([], errW l)) := (by unfold lowestR; rw [if_neg he] : lowestR l = _)
    obtain ⟨ev, hev⟩ : ∃ ev, ev = errW l := ⟨_, rfl⟩
    rw [← hev] at HC hb HT
    clear he hr hev
    go_enter Try.func33, Try.ntmps33
    go_wp2_with fail
    refine HC.out.mono ?_
    rintro _ _ ⟨rfl, rfl⟩
    go_wp2
    go_ret2
    rw [HT.out]
    exact retSlE_nil (Below.refl _ _)
end Go.Proofs.Ytmfbiohdmhbkoaa

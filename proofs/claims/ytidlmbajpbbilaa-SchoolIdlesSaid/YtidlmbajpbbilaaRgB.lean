/- The reference: Alike; Differ returns the first chart that two valid schools read differently, or -1. -/
import Derived.Test.YtidlmbajpbbilaaHlG
namespace Go.Proofs.Ytidlmbajpbbilaa
open Go.RowKit

theorem filter_same {p q : Nat → Bool} {n : Nat} (h : (List.range n).filter p = (List.range n).filter q) : ∀ i, i < n → p i = q i := fun i hi => by
  rw [Bool.eq_iff_iff]
  have h1 : i ∈ (List.range n).filter p ↔ i ∈ (List.range n).filter q := by rw [h]
  simpa [hi] using h1
theorem cast_inj {l l' : List Nat} (h : l.map (fun (i : Nat) => (i : Int)) = l'.map (fun (i : Nat) => (i : Int))) : l = l' := by
  refine List.map_inj_right (fun x y e => ?_) |>.1 h
  exact Int.ofNat.inj e
/-- two readings have the same kind and answers just if the answers are the same set -/
theorem alike_ans (a b : Sch) (kind : Int) (ch : List Int) : ((readP a kind ch).1 == (readP b kind ch).1 && (readP a kind ch).2.1 == (readP b kind ch).2.1) = (ansN a 0 kind ch == ansN b 0 kind ch) := by
  simp only [readP]
  rw [Bool.eq_iff_iff]
  simp only [Bool.and_eq_true, beq_iff_eq]
  constructor
  · rintro ⟨-, h⟩
    rw [bitsOf_ans, bitsOf_ans] at h
    exact bset_congr (filter_same (cast_inj h))
  · intro h
    rw [h]
    refine ⟨?_, rfl⟩
    have h1 := bitsOf_ans a 0 kind ch
    rw [h, bitsOf_ans b 0 kind ch] at h1
    rw [cast_inj h1]
set_option maxRecDepth 100000 in
set_option maxHeartbeats 2000000 in
theorem ralike_any (kx ky : Int) (a b : List Int) (A A2 : Option Addr) (c c2 : Nat) (V4 V5 : Value) (w : World) (hl : a.length ≤ 1000000) (hr : Sl intCell 1 w w.heap.size A a) (hr2 : Sl intCell 1 w w.heap.size A2 b) :
    Calls Try.prog 76 #[.agg #[.int .i64 kx, .slice A a.length c, V4], .agg #[.int .i64 ky, .slice A2 b.length c2, V5]] w fun e w' => e = .returned (.bool (kx == ky && a == b)) ∧ Below w.heap.size w w' := by
  by_cases hk : (kx == ky) = true
  · have hk2 : (kx != ky) = false := by simp only [beq_iff_eq] at hk; simp [hk]
    rw [hk, Bool.true_and]
    clear hk
    by_cases hlen : a.length = b.length
    · have hd : ((a.length : Int) != (b.length : Int)) = false := by simp [hlen]
      have HR := Lib.hid hr; have HR2 := Lib.hid hr2
      have hn1 : a.length ≤ b.length := by omega
      have hn2 : b.length ≤ a.length := by omega
      clear hr hr2 hlen
      go_enter Try.func76, Try.ntmps76
      go_wp2
      refine wp_world (fun W => Below w.heap.size w W ∧ w.heap.size + 1 < W.heap.size ∧ Blk W w.heap.size #[.int .i64 kx, .slice A a.length c, V4] 73 ∧ Blk W (w.heap.size + 1) #[.int .i64 ky, .slice A2 b.length c2, V5] 73) ⟨by (repeat (first | exact Below.refl _ _ | assumption | (refine Below.alloc ?_ (by first | omega | (simp; omega) | (simp; done)) _) | (refine Below.setCell ?_ (by first | omega | (simp; omega) | (simp; done)) _) | (refine Below.drew ?_) | (refine belowN ?_ _) | (refine Below.trans ?_ (Below.mono ‹Below _ _ _› (by first | omega | (simp; omega) | (simp; done)))))), by simp, (Blk.at_ rfl).alloc _, Blk.at_ (by simp)⟩ ?_
      rintro w0 ⟨hbw, hz0, g0, g1⟩
      clear hd hk2
      go_loopw [5] (fun i wr => ∃ k : Nat, k ≤ a.length ∧ i = .int .i64 k ∧ Below w0.heap.size w0 wr ∧ Hid ((a == b) = (a.drop k == b.drop k))) (fun i _ => a.length - (intOf i).toNat)
      case atStart => exact ⟨0, by omega, rfl, Below.refl _ _, rfl⟩
      case round =>
        obtain ⟨k, hk, rfl, hb, HA⟩ := hrel
        have hsz := hb.size
        have hbr : Below w.heap.size w wr := hbw.trans (hb.mono (by omega))
        have gA := (g0.below hb (by omega)).cell 1
        have gB := (g1.below hb (by omega)).cell 1
        simp at gA gB
        have l0 : w.heap.size < wr.heap.size := by omega
        have l1 : w.heap.size + 1 < wr.heap.size := by omega
        by_cases hlt : k < a.length
        · have hlt2 : k < b.length := by omega
          have HD := Lib.hid (eq_drop a b k hlt hlt2)
          obtain ⟨ab, ao, rfl, hblk, hcell⟩ := (HR.out.below hbr).at_ (k := k) (fun _ => rfl) hlt
          obtain ⟨cb, co, rfl, hblk2, hcell2⟩ := (HR2.out.below hbr).at_ (k := k) (fun _ => rfl) hlt2
          obtain ⟨x, hx⟩ : ∃ t, a[k] = t := ⟨_, rfl⟩
          obtain ⟨y, hy⟩ : ∃ t, b[k] = t := ⟨_, rfl⟩
          rw [hx] at hcell HD
          rw [hy] at hcell2 HD
          have c0 : wr.cell? ⟨ab, ao + k, none⟩ = some (.int .i64 x) := by have := hcell 0 _ rfl; simpa using this
          have c1 : wr.cell? ⟨cb, co + k, none⟩ = some (.int .i64 y) := by have := hcell2 0 _ rfl; simpa using this
          have hj0 : (0 : Int) ≤ (k : Int) := by omega
          have hj1 : (k : Int) < (a.length : Int) := by omega
          have hj2 : (k : Int) < (b.length : Int) := by omega
          clear hcell hcell2 hx hy
          by_cases f1 : (x == y) = true
          · have f2 : (x != y) = false := by simp only [beq_iff_eq] at f1; simp [f1]
            have HT : Hid ((a == b) = (a.drop (k + 1) == b.drop (k + 1))) := (by rw [HA.out, HD.out, f1]; rfl : (a == b) = (a.drop (k + 1) == b.drop (k + 1)))
            clear f1
            go_wp2
            (refine wp_region_ext (by kernel_rfl) (by kernel_rfl) ?_; (repeat (go_big_quiet_step((fail)))); with_reducible refine wpQuiet_nil ?_; intro w2 hw2; have hb1 := ext_below hw2; clear hw2)
            go_wp2
            go_roundw
            case rel => exact ⟨k + 1, by omega, by go_num, hb.trans (hb1.mono hsz), HT⟩
            case measure => simp [intOf]; omega
          · simp only [Bool.not_eq_true] at f1
            have f2 : (x != y) = true := by simpa using f1
            have HT : Hid ((a == b) = false) := (by rw [HA.out, HD.out, f1]; rfl : (a == b) = false)
            clear f1
            go_wp2
            (refine wp_region_ext (by kernel_rfl) (by kernel_rfl) ?_; (repeat (go_big_quiet_step((fail)))); with_reducible refine wpQuiet_nil ?_; intro w2 hw2; have hb1 := ext_below hw2; clear hw2)
            go_wp2
            go_ret
            exact ⟨ret_bool HT.out.symm, hbr.trans (hb1.mono hbr.size)⟩
        · have HT : Hid ((a == b) = true) := (by rw [HA.out, List.drop_eq_nil_of_le (by omega : a.length ≤ k), List.drop_eq_nil_of_le (by omega : b.length ≤ k)]; rfl : (a == b) = true)
          go_wp2
          go_ret
          exact ⟨ret_bool HT.out.symm, hbr⟩
    · have hd : ((a.length : Int) != (b.length : Int)) = true := by simp; omega
      have HT : Hid ((a == b) = false) := (by simp only [beq_eq_false_iff_ne, ne_eq]; intro h; exact hlen (by rw [h]) : (a == b) = false)
      clear hlen hr hr2
      go_enter Try.func76, Try.ntmps76
      go_wp2
      go_ret
      exact ⟨ret_bool HT.out.symm, by (repeat (first | exact Below.refl _ _ | assumption | (refine Below.alloc ?_ (by first | omega | (simp; omega) | (simp; done)) _) | (refine Below.setCell ?_ (by first | omega | (simp; omega) | (simp; done)) _) | (refine Below.drew ?_) | (refine belowN ?_ _) | (refine Below.trans ?_ (Below.mono ‹Below _ _ _› (by first | omega | (simp; omega) | (simp; done))))))⟩
  · simp only [Bool.not_eq_true] at hk
    have hk2 : (kx != ky) = true := by simpa using hk
    rw [hk, Bool.false_and]
    clear hk hr hr2
    go_enter Try.func76, Try.ntmps76
    go_wp2
    go_ret
    exact ⟨rfl, by (repeat (first | exact Below.refl _ _ | assumption | (refine Below.alloc ?_ (by first | omega | (simp; omega) | (simp; done)) _) | (refine Below.setCell ?_ (by first | omega | (simp; omega) | (simp; done)) _) | (refine Below.drew ?_) | (refine belowN ?_ _) | (refine Below.trans ?_ (Below.mono ‹Below _ _ _› (by first | omega | (simp; omega) | (simp; done))))))⟩
end Go.Proofs.Ytidlmbajpbbilaa

/- The reference: in, Charts, set. -/
import Derived.Test.YtidlmbajpbbilaaScY
namespace Go.Proofs.Ytidlmbajpbbilaa
open Go.RowKit

theorem rin_any (n a b : Int) (w : World) : Calls Try.prog 60 #[.int .i64 n, .int .i64 a, .int .i64 b] w fun e w' => e = .returned (.bool (inB n a b)) ∧ w = w' := by
  by_cases h1 : a ≤ n
  · go_enter Try.func60, Try.ntmps60
    go_wp2
    go_ret
    exact ⟨by simp [inB, h1], rfl⟩
  · go_enter Try.func60, Try.ntmps60
    go_wp2
    go_ret
    exact ⟨by simp [inB]; omega, rfl⟩
theorem rin_val {n a b : Int} {v : Bool} (h : inB n a b = v) (w : World) : Calls Try.prog 60 #[.int .i64 n, .int .i64 a, .int .i64 b] w fun e w' => e = .returned (.bool v) ∧ w = w' := h ▸ rin_any n a b w

theorem chartsN_stuck {s : Int} (h1 : 1 ≤ s) {j : Nat} (h : chartsN s j = 4097) : ∀ d, chartsN s (j + d) = 4097
  | 0 => h
  | d + 1 => by
    have ih := chartsN_stuck h1 h d
    show min (chartsN s (j + d) * s) 4097 = 4097
    rw [ih]
    have : 4097 * 1 ≤ 4097 * s := Int.mul_le_mul_of_nonneg_left h1 (by omega)
    omega
theorem rcharts_any (s : Sch) (R : Value) (hs : Small s) (w : World) :
    Calls Try.prog 40 #[scv s R] w fun e w' => e = .returned (.int .i64 (chartsN s.signs s.places.toNat)) ∧ Below w.heap.size w w' := by
  obtain ⟨p, s, k, a, ra, rc, rs⟩ := s
  obtain ⟨hp, hp', hs, hs'⟩ := hs
  simp only at *
  obtain ⟨p, rfl⟩ := Int.eq_ofNat_of_zero_le (a := p) (by omega)
  go_enter Try.func40, Try.ntmps40
  go_wp2
  go_loop [3, 4] (fun n i => ∃ j : Nat, j ≤ p ∧ i = .int .i64 j ∧ n = .int .i64 (chartsN s j) ∧ chartsN s j ≤ 4096) (fun _ i => p - (intOf i).toNat)
  case atStart => exact ⟨0, by omega, rfl, rfl, by simp [chartsN]⟩
  case round =>
    obtain ⟨j, hj, rfl, rfl, h4⟩ := hrel
    have hb := chartsN_bd s hs j
    have hm1 : 0 ≤ chartsN s j * s := Int.mul_nonneg (by omega) (by omega)
    have hm2 : chartsN s j * s ≤ 4097 * 64 := Int.mul_le_mul hb.2 hs' (by omega) (by omega)
    by_cases hlt : j < p
    · by_cases hgt : 4096 < chartsN s j * s
      · have he : chartsN s (j + 1) = 4097 := by simp only [chartsN]; omega
        have hE := Lib.hid (chartsN_stuck hs he (p - (j + 1)))
        clear he
        go_wp2
        go_ret
        exact ⟨ret_int (by have := hE.out; rw [show j + 1 + (p - (j + 1)) = p by omega] at this; simpa using this.symm), (Below.refl _ _).alloc (Nat.le_refl _) _⟩
      · have he : chartsN s (j + 1) = chartsN s j * s := by simp only [chartsN]; omega
        have hE := Lib.hid he
        clear he
        go_wp2
        go_round
        case rel => exact ⟨j + 1, by omega, by go_num, by rw [hE.out], by rw [hE.out]; omega⟩
        case measure => simp [intOf]; omega
    · go_wp2
      go_ret
      have : j = p := by omega
      subst this
      exact ⟨by simp, (Below.refl _ _).alloc (Nat.le_refl _) _⟩

theorem bit1_u64 (x f : Int) (hx : IsU64 x) : (bits BinOp.and IntKind.u64 (x / 2 ^ f.toNat) 1 == 1) = bitB x f := by
  have h0 : (0 : Int) < 2 ^ f.toNat := Int.pow_pos (by omega)
  have h1 : 0 ≤ x / 2 ^ f.toNat := Int.ediv_nonneg hx.1 (by omega)
  have h2 : x / 2 ^ f.toNat ≤ x := Int.ediv_le_self _ hx.1
  have h3 := hx.2
  rw [and_one_u64 _ h1 (by omega)]
  unfold bitB
  have : x / 2 ^ f.toNat % 2 = 0 ∨ x / 2 ^ f.toNat % 2 = 1 := by omega
  rcases this with h | h <;> rw [h] <;> rfl
theorem bitB_nat (x : Nat) (f : Nat) : bitB (x : Int) (f : Int) = x.testBit f := by
  unfold bitB
  rw [Int.toNat_natCast, Nat.testBit_eq_decide_div_mod_eq]
  have h : (x : Int) / 2 ^ f % 2 = ((x / 2 ^ f % 2 : Nat) : Int) := by simp
  rw [h]
  have : x / 2 ^ f % 2 = 0 ∨ x / 2 ^ f % 2 = 1 := by omega
  rcases this with h | h <;> rw [h] <;> rfl
theorem fitsB_bits {signs x : Int} (hx : IsU64 x) (h0 : 0 ≤ signs) : fitsB signs x = true ↔ ∀ f : Nat, signs ≤ (f : Int) → f < 64 → bitB x (f : Int) = false := by
  obtain ⟨X, rfl⟩ := Int.eq_ofNat_of_zero_le hx.1
  obtain ⟨S, rfl⟩ := Int.eq_ofNat_of_zero_le h0
  have hX : X < 2 ^ 64 := by have := hx.2; omega
  simp only [fitsB, Int.toNat_natCast, decide_eq_true_eq, bitB_nat]
  have e : ((X : Int) / 2 ^ S = 0) ↔ X / 2 ^ S = 0 := by
    have : (X : Int) / 2 ^ S = ((X / 2 ^ S : Nat) : Int) := by simp
    rw [this]; omega
  rw [e]
  constructor
  · intro h f hf hf2
    have hlt : X < 2 ^ S := by
      rcases Nat.lt_or_ge X (2 ^ S) with h1 | h1
      · exact h1
      · have := Nat.div_pos h1 (Nat.two_pow_pos S); omega
    exact Nat.testBit_lt_two_pow (Nat.lt_of_lt_of_le hlt (Nat.pow_le_pow_right (by omega) (by omega)))
  · intro h
    refine Nat.div_eq_of_lt (Nat.lt_pow_two_of_testBit X fun i hi => ?_)
    rcases Nat.lt_or_ge i 64 with h1 | h1
    · exact h i (by omega) h1
    · exact Nat.testBit_lt_two_pow (Nat.lt_of_lt_of_le hX (Nat.pow_le_pow_right (by omega) h1))
theorem rset_any (s : Sch) (x : Int) (R : Value) (hs : 1 ≤ s.signs) (hs' : s.signs ≤ 64) (hx : IsU64 x) (w : World) :
    Calls Try.prog 62 #[scv s R, .int .u64 x] w fun e w' => e = .returned (.bool (fitsB s.signs x)) ∧ Below w.heap.size w w' := by
  have HF := Lib.hid (fitsB_bits (signs := s.signs) hx (by omega))
  obtain ⟨b, hb⟩ : ∃ b, b = fitsB s.signs x := ⟨_, rfl⟩
  rw [← hb] at HF ⊢
  clear hb
  have HX := Lib.hid hx
  have hx0 := hx.1
  have hx1 := hx.2
  clear hx
  obtain ⟨p, sg, k, a, ra, rc, rs⟩ := s
  simp only at *
  go_enter Try.func62, Try.ntmps62
  go_wp2
  go_loop [5] (fun i => ∃ f : Nat, sg ≤ (f : Int) ∧ f ≤ 64 ∧ i = .int .i64 f ∧ Hid (∀ g : Nat, sg ≤ (g : Int) → g < f → bitB x (g : Int) = false)) (fun i => 64 - (intOf i).toNat)
  case atStart => exact ⟨sg.toNat, by omega, by omega, by rw [Int.toNat_of_nonneg (by omega)], fun g h1 h2 => by omega⟩
  case round =>
    obtain ⟨f, hf, hf2, rfl, hno⟩ := hrel
    by_cases hlt : f < 64
    · have hbt := bit1_u64 x (f : Int) HX.out
      simp only [Int.toNat_natCast] at hbt
      by_cases hbit : bitB x (f : Int) = true
      · rw [hbit] at hbt
        have HB : Hid (b = false) := (by rw [← Bool.not_eq_true]; intro h; exact Bool.noConfusion (((HF.out.1 h) f hf hlt).symm.trans hbit) : b = false)
        clear hbit
        go_wp2
        go_ret
        exact ⟨ret_bool HB.out.symm, (Below.refl _ _).alloc (Nat.le_refl _) _⟩
      · simp only [Bool.not_eq_true] at hbit
        rw [hbit] at hbt
        have HB := Lib.hid hbit
        clear hbit
        go_wp2
        go_round
        case rel => exact ⟨f + 1, by omega, by omega, by go_num, fun g h1 h2 => (by
          rcases Nat.lt_succ_iff_lt_or_eq.1 h2 with h3 | rfl
          · exact hno.out g h1 h3
          · exact HB.out)⟩
        case measure => simp [intOf]; omega
    · have HB : Hid (b = true) := (HF.out.2 fun g h1 h2 => hno.out g h1 (by omega) : b = true)
      go_wp2
      go_ret
      exact ⟨ret_bool HB.out.symm, (Below.refl _ _).alloc (Nat.le_refl _) _⟩
end Go.Proofs.Ytidlmbajpbbilaa
namespace Go.Proofs.Ytidlmbajpbbilaa
open Go.RowKit

theorem all_drop {α : Type} {p : α → Bool} {l : List α} {k : Nat} (h : k < l.length) : (l.drop k).all p = (p l[k] && (l.drop (k + 1)).all p) := by
  rw [List.drop_eq_getElem_cons h]; rfl
set_option maxRecDepth 100000 in
set_option maxHeartbeats 4000000 in
theorem rtests_any (s : Sch) (R : Value) (A : Option Addr) (c : Nat) (ts : List Tst) (w : World) (hs : Small s) (hl : ts.length ≤ 1000000) (ho : ∀ t ∈ ts, t.ok) (hr : Sl Tst.cells 4 w w.heap.size A ts) :
    Calls Try.prog 61 #[scv s R, .slice A ts.length c] w fun e w' => e = .returned (.bool (testsB s ts)) ∧ Below w.heap.size w w' := by
  have HO := Lib.hid ho; have HR := Lib.hid hr
  obtain ⟨q1, q2, q3, q4⟩ := hs
  clear ho hr
  go_enter Try.func61, Try.ntmps61
  go_wp2
  refine wp_world (fun W => Below w.heap.size w W ∧ w.heap.size < W.heap.size ∧ Blk W w.heap.size #[.int .i64 s.places, .int .i64 s.signs, .int .i64 s.kinds, .int .i64 s.answers, R] 24) ⟨(Below.refl _ _).alloc (Nat.le_refl _) _, by simp, Blk.at_ rfl⟩ ?_
  rintro w0 ⟨hbw, hz0, g0⟩
  go_loopw [5] (fun i wr => ∃ j : Nat, j ≤ ts.length ∧ i = .int .i64 j ∧ Below w0.heap.size w0 wr ∧ Hid (ts.all (tstB s) = (ts.drop j).all (tstB s))) (fun i _ => ts.length - (intOf i).toNat)
  case atStart => exact ⟨0, by omega, rfl, Below.refl _ _, rfl⟩
  case round =>
    obtain ⟨j, hj, rfl, hb, HA⟩ := hrel
    have hsz := hb.size
    have hbr : Below w.heap.size w wr := hbw.trans (hb.mono (by omega))
    have gc := (g0.below hb (by omega)).cell
    have s0 := gc 0; have s1 := gc 1; have s2 := gc 2; have s3 := gc 3; have s4 := gc 4
    simp at s0 s1 s2 s3 s4
    clear gc
    by_cases hlt : j < ts.length
    · obtain ⟨ab, ao, rfl, hblk, hcell⟩ := (HR.out.below hbr).at_ (k := j) (fun _ => rfl) hlt
      have HD := Lib.hid (all_drop (p := tstB s) hlt)
      have hok := HO.out _ (List.getElem_mem hlt)
      obtain ⟨t, ht⟩ : ∃ t, ts[j] = t := ⟨_, rfl⟩
      rw [ht] at hcell HD hok
      clear ht
      have HSET := fun W => Lib.hid (rset_any s t.set R q3 q4 hok.2 W)
      obtain ⟨tk, tp, to, tt⟩ := t
      have c0 : wr.cell? ⟨ab, ao + j * 4, none⟩ = some (Value.int .i64 tk) := hcell 0 _ rfl
      have c1 : wr.cell? ⟨ab, ao + j * 4 + 1, none⟩ = some (Value.int .i64 tp) := hcell 1 _ rfl
      have c2 : wr.cell? ⟨ab, ao + j * 4 + 2, none⟩ = some (Value.int .i64 to) := hcell 2 _ rfl
      have c3 : wr.cell? ⟨ab, ao + j * 4 + 3, none⟩ = some (Value.int .u64 tt) := hcell 3 _ rfl
      have l0 : w.heap.size < wr.heap.size := by omega
      clear hcell hok
      have BAD : ((0 : Int) == 0) = true := rfl
      simp only at HSET
      by_cases k1 : (tk == 1) = true
      · by_cases d1 : inB tp 0 (s.places - 1) = true
        · by_cases o1 : (to != 0) = true
          · have o2 : (to == 0) = false := by simpa using o1
            have k2 : (tk == 2) = false := by simp only [beq_iff_eq] at k1; simp [k1]
            have k3 : (tk == 3) = false := by simp only [beq_iff_eq] at k1; simp [k1]
            have HT : Hid ((ts.drop j).all (tstB s) = false) := (by rw [HD.out]; simp only [tstB, k1, k2, k3, o2]; simp : (ts.drop j).all (tstB s) = false)
            go_wp2_with (first | (go_at_call 60; refine (rin_val (by assumption) _).mono ?_; rintro e w' ⟨rfl, rfl⟩) | (go_at_call 62; refine ((HSET _).out).mono ?_; rintro e w2 ⟨rfl, hb2⟩))
            go_ret
            exact ⟨ret_bool (by simp only [testsB]; rw [HA.out, HT.out]; simp), by (repeat (first | exact Below.refl _ _ | assumption | (refine Below.alloc ?_ (by first | omega | (simp; omega) | (simp; done)) _) | (refine Below.setCell ?_ (by first | omega | (simp; omega) | (simp; done)) _) | (refine Below.drew ?_) | (refine belowN ?_ _) | (refine Below.trans ?_ (Below.mono ‹Below _ _ _› (by first | omega | (simp; omega) | (simp; done))))))⟩
          · simp only [Bool.not_eq_true] at o1
            have o2 : (to == 0) = true := by simpa using o1
            have k2 : (tk == 2) = false := by simp only [beq_iff_eq] at k1; simp [k1]
            have k3 : (tk == 3) = false := by simp only [beq_iff_eq] at k1; simp [k1]
            by_cases f1 : fitsB s.signs tt = true
            · rw [f1] at HSET
              have HT : Hid (ts.all (tstB s) = (ts.drop (j + 1)).all (tstB s)) := (by rw [HA.out, HD.out]; simp only [tstB, k1, k2, k3, o2, d1, f1]; simp : ts.all (tstB s) = (ts.drop (j + 1)).all (tstB s))
              go_wp2_with (first | (go_at_call 60; refine (rin_val (by assumption) _).mono ?_; rintro e w' ⟨rfl, rfl⟩) | (go_at_call 62; refine ((HSET _).out).mono ?_; rintro e w2 ⟨rfl, hb2⟩))
              go_roundw
              case rel => exact ⟨j + 1, by omega, by go_num, by (repeat (first | exact Below.refl _ _ | assumption | (refine Below.alloc ?_ (by first | omega | (simp; omega) | (simp; done)) _) | (refine Below.setCell ?_ (by first | omega | (simp; omega) | (simp; done)) _) | (refine Below.drew ?_) | (refine belowN ?_ _) | (refine Below.trans ?_ (Below.mono ‹Below _ _ _› (by first | omega | (simp; omega) | (simp; done)))))), HT⟩
              case measure => simp [intOf]; omega
            · simp only [Bool.not_eq_true] at f1
              rw [f1] at HSET
              have HT : Hid ((ts.drop j).all (tstB s) = false) := (by rw [HD.out]; simp only [tstB, k1, k2, k3, o2, d1, f1]; simp : (ts.drop j).all (tstB s) = false)
              go_wp2_with (first | (go_at_call 60; refine (rin_val (by assumption) _).mono ?_; rintro e w' ⟨rfl, rfl⟩) | (go_at_call 62; refine ((HSET _).out).mono ?_; rintro e w2 ⟨rfl, hb2⟩))
              go_ret
              exact ⟨ret_bool (by simp only [testsB]; rw [HA.out, HT.out]; simp), by (repeat (first | exact Below.refl _ _ | assumption | (refine Below.alloc ?_ (by first | omega | (simp; omega) | (simp; done)) _) | (refine Below.setCell ?_ (by first | omega | (simp; omega) | (simp; done)) _) | (refine Below.drew ?_) | (refine belowN ?_ _) | (refine Below.trans ?_ (Below.mono ‹Below _ _ _› (by first | omega | (simp; omega) | (simp; done))))))⟩
        · simp only [Bool.not_eq_true] at d1
          have HT : Hid ((ts.drop j).all (tstB s) = false) := (by rw [HD.out]; simp only [tstB, d1]; simp : (ts.drop j).all (tstB s) = false)
          go_wp2_with (first | (go_at_call 60; refine (rin_val (by assumption) _).mono ?_; rintro e w' ⟨rfl, rfl⟩) | (go_at_call 62; refine ((HSET _).out).mono ?_; rintro e w2 ⟨rfl, hb2⟩))
          go_ret
          exact ⟨ret_bool (by simp only [testsB]; rw [HA.out, HT.out]; simp), by (repeat (first | exact Below.refl _ _ | assumption | (refine Below.alloc ?_ (by first | omega | (simp; omega) | (simp; done)) _) | (refine Below.setCell ?_ (by first | omega | (simp; omega) | (simp; done)) _) | (refine Below.drew ?_) | (refine belowN ?_ _) | (refine Below.trans ?_ (Below.mono ‹Below _ _ _› (by first | omega | (simp; omega) | (simp; done))))))⟩
      · simp only [Bool.not_eq_true] at k1
        by_cases d1 : inB tp 0 (s.places - 1) = true
        · by_cases k2 : (tk == 2) = true
          · have k3 : (tk == 3) = false := by simp only [beq_iff_eq] at k2; simp [k2]
            by_cases d2 : inB to 0 (s.places - 1) = true
            · by_cases d3 : (tp == to) = true
              · have d4 : (to != tp) = false := by simp only [beq_iff_eq] at d3; simp [d3]
                have HT : Hid ((ts.drop j).all (tstB s) = false) := (by rw [HD.out]; simp only [tstB, k1, k2, k3, d1, d2, d4]; simp : (ts.drop j).all (tstB s) = false)
                go_wp2_with (first | (go_at_call 60; refine (rin_val (by assumption) _).mono ?_; rintro e w' ⟨rfl, rfl⟩) | (go_at_call 62; refine ((HSET _).out).mono ?_; rintro e w2 ⟨rfl, hb2⟩))
                go_ret
                exact ⟨ret_bool (by simp only [testsB]; rw [HA.out, HT.out]; simp), by (repeat (first | exact Below.refl _ _ | assumption | (refine Below.alloc ?_ (by first | omega | (simp; omega) | (simp; done)) _) | (refine Below.setCell ?_ (by first | omega | (simp; omega) | (simp; done)) _) | (refine Below.drew ?_) | (refine belowN ?_ _) | (refine Below.trans ?_ (Below.mono ‹Below _ _ _› (by first | omega | (simp; omega) | (simp; done))))))⟩
              · simp only [Bool.not_eq_true] at d3
                have d4 : (to != tp) = true := by simp only [beq_eq_false_iff_ne, ne_eq] at d3; simp only [bne_iff_ne, ne_eq]; omega
                by_cases d5 : (tt != 0) = true
                · have d6 : (tt == 0) = false := by simpa using d5
                  have HT : Hid ((ts.drop j).all (tstB s) = false) := (by rw [HD.out]; simp only [tstB, k1, k2, k3, d1, d2, d4, d6]; simp : (ts.drop j).all (tstB s) = false)
                  go_wp2_with (first | (go_at_call 60; refine (rin_val (by assumption) _).mono ?_; rintro e w' ⟨rfl, rfl⟩) | (go_at_call 62; refine ((HSET _).out).mono ?_; rintro e w2 ⟨rfl, hb2⟩))
                  go_ret
                  exact ⟨ret_bool (by simp only [testsB]; rw [HA.out, HT.out]; simp), by (repeat (first | exact Below.refl _ _ | assumption | (refine Below.alloc ?_ (by first | omega | (simp; omega) | (simp; done)) _) | (refine Below.setCell ?_ (by first | omega | (simp; omega) | (simp; done)) _) | (refine Below.drew ?_) | (refine belowN ?_ _) | (refine Below.trans ?_ (Below.mono ‹Below _ _ _› (by first | omega | (simp; omega) | (simp; done))))))⟩
                · simp only [Bool.not_eq_true] at d5
                  have d6 : (tt == 0) = true := by simpa using d5
                  have HT : Hid (ts.all (tstB s) = (ts.drop (j + 1)).all (tstB s)) := (by rw [HA.out, HD.out]; simp only [tstB, k1, k2, k3, d1, d2, d4, d6]; simp : ts.all (tstB s) = (ts.drop (j + 1)).all (tstB s))
                  go_wp2_with (first | (go_at_call 60; refine (rin_val (by assumption) _).mono ?_; rintro e w' ⟨rfl, rfl⟩) | (go_at_call 62; refine ((HSET _).out).mono ?_; rintro e w2 ⟨rfl, hb2⟩))
                  go_roundw
                  case rel => exact ⟨j + 1, by omega, by go_num, by (repeat (first | exact Below.refl _ _ | assumption | (refine Below.alloc ?_ (by first | omega | (simp; omega) | (simp; done)) _) | (refine Below.setCell ?_ (by first | omega | (simp; omega) | (simp; done)) _) | (refine Below.drew ?_) | (refine belowN ?_ _) | (refine Below.trans ?_ (Below.mono ‹Below _ _ _› (by first | omega | (simp; omega) | (simp; done)))))), HT⟩
                  case measure => simp [intOf]; omega
            · simp only [Bool.not_eq_true] at d2
              have HT : Hid ((ts.drop j).all (tstB s) = false) := (by rw [HD.out]; simp only [tstB, k1, d2]; simp : (ts.drop j).all (tstB s) = false)
              go_wp2_with (first | (go_at_call 60; refine (rin_val (by assumption) _).mono ?_; rintro e w' ⟨rfl, rfl⟩) | (go_at_call 62; refine ((HSET _).out).mono ?_; rintro e w2 ⟨rfl, hb2⟩))
              go_ret
              exact ⟨ret_bool (by simp only [testsB]; rw [HA.out, HT.out]; simp), by (repeat (first | exact Below.refl _ _ | assumption | (refine Below.alloc ?_ (by first | omega | (simp; omega) | (simp; done)) _) | (refine Below.setCell ?_ (by first | omega | (simp; omega) | (simp; done)) _) | (refine Below.drew ?_) | (refine belowN ?_ _) | (refine Below.trans ?_ (Below.mono ‹Below _ _ _› (by first | omega | (simp; omega) | (simp; done))))))⟩
          · simp only [Bool.not_eq_true] at k2
            by_cases k3 : (tk == 3) = true
            · by_cases d2 : inB to 0 (s.places - 1) = true
              · by_cases d3 : (tp == to) = true
                · have d4 : (to != tp) = false := by simp only [beq_iff_eq] at d3; simp [d3]
                  have HT : Hid ((ts.drop j).all (tstB s) = false) := (by rw [HD.out]; simp only [tstB, k1, k2, k3, d1, d2, d4]; simp : (ts.drop j).all (tstB s) = false)
                  go_wp2_with (first | (go_at_call 60; refine (rin_val (by assumption) _).mono ?_; rintro e w' ⟨rfl, rfl⟩) | (go_at_call 62; refine ((HSET _).out).mono ?_; rintro e w2 ⟨rfl, hb2⟩))
                  go_ret
                  exact ⟨ret_bool (by simp only [testsB]; rw [HA.out, HT.out]; simp), by (repeat (first | exact Below.refl _ _ | assumption | (refine Below.alloc ?_ (by first | omega | (simp; omega) | (simp; done)) _) | (refine Below.setCell ?_ (by first | omega | (simp; omega) | (simp; done)) _) | (refine Below.drew ?_) | (refine belowN ?_ _) | (refine Below.trans ?_ (Below.mono ‹Below _ _ _› (by first | omega | (simp; omega) | (simp; done))))))⟩
                · simp only [Bool.not_eq_true] at d3
                  have d4 : (to != tp) = true := by simp only [beq_eq_false_iff_ne, ne_eq] at d3; simp only [bne_iff_ne, ne_eq]; omega
                  by_cases d5 : (tt != 0) = true
                  · have d6 : (tt == 0) = false := by simpa using d5
                    have HT : Hid ((ts.drop j).all (tstB s) = false) := (by rw [HD.out]; simp only [tstB, k1, k2, k3, d1, d2, d4, d6]; simp : (ts.drop j).all (tstB s) = false)
                    go_wp2_with (first | (go_at_call 60; refine (rin_val (by assumption) _).mono ?_; rintro e w' ⟨rfl, rfl⟩) | (go_at_call 62; refine ((HSET _).out).mono ?_; rintro e w2 ⟨rfl, hb2⟩))
                    go_ret
                    exact ⟨ret_bool (by simp only [testsB]; rw [HA.out, HT.out]; simp), by (repeat (first | exact Below.refl _ _ | assumption | (refine Below.alloc ?_ (by first | omega | (simp; omega) | (simp; done)) _) | (refine Below.setCell ?_ (by first | omega | (simp; omega) | (simp; done)) _) | (refine Below.drew ?_) | (refine belowN ?_ _) | (refine Below.trans ?_ (Below.mono ‹Below _ _ _› (by first | omega | (simp; omega) | (simp; done))))))⟩
                  · simp only [Bool.not_eq_true] at d5
                    have d6 : (tt == 0) = true := by simpa using d5
                    have HT : Hid (ts.all (tstB s) = (ts.drop (j + 1)).all (tstB s)) := (by rw [HA.out, HD.out]; simp only [tstB, k1, k2, k3, d1, d2, d4, d6]; simp : ts.all (tstB s) = (ts.drop (j + 1)).all (tstB s))
                    go_wp2_with (first | (go_at_call 60; refine (rin_val (by assumption) _).mono ?_; rintro e w' ⟨rfl, rfl⟩) | (go_at_call 62; refine ((HSET _).out).mono ?_; rintro e w2 ⟨rfl, hb2⟩))
                    go_roundw
                    case rel => exact ⟨j + 1, by omega, by go_num, by (repeat (first | exact Below.refl _ _ | assumption | (refine Below.alloc ?_ (by first | omega | (simp; omega) | (simp; done)) _) | (refine Below.setCell ?_ (by first | omega | (simp; omega) | (simp; done)) _) | (refine Below.drew ?_) | (refine belowN ?_ _) | (refine Below.trans ?_ (Below.mono ‹Below _ _ _› (by first | omega | (simp; omega) | (simp; done)))))), HT⟩
                    case measure => simp [intOf]; omega
              · simp only [Bool.not_eq_true] at d2
                have HT : Hid ((ts.drop j).all (tstB s) = false) := (by rw [HD.out]; simp only [tstB, k1, d2]; simp : (ts.drop j).all (tstB s) = false)
                go_wp2_with (first | (go_at_call 60; refine (rin_val (by assumption) _).mono ?_; rintro e w' ⟨rfl, rfl⟩) | (go_at_call 62; refine ((HSET _).out).mono ?_; rintro e w2 ⟨rfl, hb2⟩))
                go_ret
                exact ⟨ret_bool (by simp only [testsB]; rw [HA.out, HT.out]; simp), by (repeat (first | exact Below.refl _ _ | assumption | (refine Below.alloc ?_ (by first | omega | (simp; omega) | (simp; done)) _) | (refine Below.setCell ?_ (by first | omega | (simp; omega) | (simp; done)) _) | (refine Below.drew ?_) | (refine belowN ?_ _) | (refine Below.trans ?_ (Below.mono ‹Below _ _ _› (by first | omega | (simp; omega) | (simp; done))))))⟩
            · simp only [Bool.not_eq_true] at k3
              have HT : Hid ((ts.drop j).all (tstB s) = false) := (by rw [HD.out]; simp only [tstB, k1, k2, k3]; simp : (ts.drop j).all (tstB s) = false)
              go_wp2_with (first | (go_at_call 60; refine (rin_val (by assumption) _).mono ?_; rintro e w' ⟨rfl, rfl⟩) | (go_at_call 62; refine ((HSET _).out).mono ?_; rintro e w2 ⟨rfl, hb2⟩))
              go_ret
              exact ⟨ret_bool (by simp only [testsB]; rw [HA.out, HT.out]; simp), by (repeat (first | exact Below.refl _ _ | assumption | (refine Below.alloc ?_ (by first | omega | (simp; omega) | (simp; done)) _) | (refine Below.setCell ?_ (by first | omega | (simp; omega) | (simp; done)) _) | (refine Below.drew ?_) | (refine belowN ?_ _) | (refine Below.trans ?_ (Below.mono ‹Below _ _ _› (by first | omega | (simp; omega) | (simp; done))))))⟩
        · simp only [Bool.not_eq_true] at d1
          by_cases k2 : (tk == 2) = true
          · have HT : Hid ((ts.drop j).all (tstB s) = false) := (by rw [HD.out]; simp only [tstB, d1]; simp : (ts.drop j).all (tstB s) = false)
            go_wp2_with (first | (go_at_call 60; refine (rin_val (by assumption) _).mono ?_; rintro e w' ⟨rfl, rfl⟩) | (go_at_call 62; refine ((HSET _).out).mono ?_; rintro e w2 ⟨rfl, hb2⟩))
            go_ret
            exact ⟨ret_bool (by simp only [testsB]; rw [HA.out, HT.out]; simp), by (repeat (first | exact Below.refl _ _ | assumption | (refine Below.alloc ?_ (by first | omega | (simp; omega) | (simp; done)) _) | (refine Below.setCell ?_ (by first | omega | (simp; omega) | (simp; done)) _) | (refine Below.drew ?_) | (refine belowN ?_ _) | (refine Below.trans ?_ (Below.mono ‹Below _ _ _› (by first | omega | (simp; omega) | (simp; done))))))⟩
          · simp only [Bool.not_eq_true] at k2
            by_cases k3 : (tk == 3) = true
            · have HT : Hid ((ts.drop j).all (tstB s) = false) := (by rw [HD.out]; simp only [tstB, d1]; simp : (ts.drop j).all (tstB s) = false)
              go_wp2_with (first | (go_at_call 60; refine (rin_val (by assumption) _).mono ?_; rintro e w' ⟨rfl, rfl⟩) | (go_at_call 62; refine ((HSET _).out).mono ?_; rintro e w2 ⟨rfl, hb2⟩))
              go_ret
              exact ⟨ret_bool (by simp only [testsB]; rw [HA.out, HT.out]; simp), by (repeat (first | exact Below.refl _ _ | assumption | (refine Below.alloc ?_ (by first | omega | (simp; omega) | (simp; done)) _) | (refine Below.setCell ?_ (by first | omega | (simp; omega) | (simp; done)) _) | (refine Below.drew ?_) | (refine belowN ?_ _) | (refine Below.trans ?_ (Below.mono ‹Below _ _ _› (by first | omega | (simp; omega) | (simp; done))))))⟩
            · simp only [Bool.not_eq_true] at k3
              have HT : Hid ((ts.drop j).all (tstB s) = false) := (by rw [HD.out]; simp only [tstB, d1]; simp : (ts.drop j).all (tstB s) = false)
              go_wp2_with (first | (go_at_call 60; refine (rin_val (by assumption) _).mono ?_; rintro e w' ⟨rfl, rfl⟩) | (go_at_call 62; refine ((HSET _).out).mono ?_; rintro e w2 ⟨rfl, hb2⟩))
              go_ret
              exact ⟨ret_bool (by simp only [testsB]; rw [HA.out, HT.out]; simp), by (repeat (first | exact Below.refl _ _ | assumption | (refine Below.alloc ?_ (by first | omega | (simp; omega) | (simp; done)) _) | (refine Below.setCell ?_ (by first | omega | (simp; omega) | (simp; done)) _) | (refine Below.drew ?_) | (refine belowN ?_ _) | (refine Below.trans ?_ (Below.mono ‹Below _ _ _› (by first | omega | (simp; omega) | (simp; done))))))⟩
    · obtain rfl : j = ts.length := by omega
      have HT : Hid (testsB s ts = decide ((ts.length : Int) ≤ 6)) := (by simp only [testsB]; rw [HA.out]; simp; omega : testsB s ts = decide ((ts.length : Int) ≤ 6))
      go_wp2
      go_ret
      exact ⟨ret_bool HT.out.symm, hbr⟩
end Go.Proofs.Ytidlmbajpbbilaa

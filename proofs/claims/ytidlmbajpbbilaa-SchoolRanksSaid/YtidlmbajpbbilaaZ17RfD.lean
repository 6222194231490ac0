/- The reference: Chart, Is, Number. -/
import Derived.Test.YtidlmbajpbbilaaRfC
namespace Go.Proofs.Ytidlmbajpbbilaa
open Go.RowKit

/-- a new block that holds a list is a row of the call's own -/
theorem ownsRow_lit {w : World} {base : Nat} {e : TypeId} (cs : Array Value) (hb : base ≤ w.heap.size) (hm : cs.size ≤ maxLen) :
    (w.alloc (.cells cs e)).ownsRow base e 1 (.slice (some ⟨w.heap.size, 0, none⟩) cs.size cs.size) cs.size cs.toList :=
  ⟨by simp, .inr ⟨w.heap.size, _, cs, rfl, hb, heap_alloc_new w _, Nat.le_refl _, hm, by simp, List.take_of_length_le (by simp)⟩⟩
theorem own_cells {w : World} {base n : Nat} {e : TypeId} {A : Option Addr} {c : Nat} {xs : List Value} (h : w.ownsRow base e 1 (.slice A n c) n xs) : ∀ g, A = some g → (g.off = 0 ∧ g.spot = none) ∧ ∀ j u, xs[j]? = some u → w.cell? (g.add j) = some u := fun g hg => by
  rcases h.2 with ⟨hv, _⟩ | ⟨b, cap, cur, hv, hrest⟩
  · rw [hg] at hv; cases hv
  · have hA : A = some ⟨b, 0, none⟩ := by injection hv
    subst hA
    cases hg
    exact ⟨⟨rfl, rfl⟩, fun j u hu => h.cells (g := b) rfl j u hu⟩
set_option maxRecDepth 100000 in
set_option maxHeartbeats 2000000 in
theorem rchart_any (s : Sch) (R : Value) (n : Int) (hs : Small s) (hn : 0 ≤ n) (hn' : n ≤ 4096) (w : World) : Calls Try.prog 41 #[scv s R, .int .i64 n] w (RetOwn 3 intCell 1 (chartL s n) w) := by
  obtain ⟨i0, hi, iz0, iz1, iz2⟩ := info_parts infoInt
  obtain ⟨h1, h2, h3, h4⟩ := hs
  obtain ⟨p, hp⟩ := Int.eq_ofNat_of_zero_le (a := s.places) (by omega)
  have HP := Lib.hid hp
  have hp6 : p ≤ 6 := by omega
  clear hp
  go_enter Try.func41, Try.ntmps41
  go_wp2
  refine wp_world (fun W => Below w.heap.size w W ∧ w.heap.size + 1 < W.heap.size ∧ Blk W w.heap.size #[.int .i64 s.places, .int .i64 s.signs, .int .i64 s.kinds, .int .i64 s.answers, R] 24 ∧ Hid (W.ownsRow w.heap.size 3 1 (.slice (some ⟨w.heap.size + 1, 0, none⟩) 0 0) 0 [])) ?_ ?_
  · refine ⟨by (repeat (first | exact Below.refl _ _ | assumption | (refine Below.alloc ?_ (by first | omega | (simp; omega) | (simp; done)) _) | (refine Below.setCell ?_ (by first | omega | (simp; omega) | (simp; done)) _) | (refine Below.drew ?_) | (refine belowN ?_ _) | (refine Below.trans ?_ (Below.mono ‹Below _ _ _› (by first | omega | (simp; omega) | (simp; done)))))), by simp, (Blk.at_ rfl).alloc _, ?_⟩
    have := ownsRow_lit (w := w.alloc (.cells #[.int .i64 s.places, .int .i64 s.signs, .int .i64 s.kinds, .int .i64 s.answers, R] 24)) (base := w.heap.size) (e := 3) #[] (by simp) (by simp)
    rw [World.size_alloc] at this
    exact this
  rintro w0 ⟨hbw, hz0, g0, hown0⟩
  have hge : Hid (∃ q : Addr, (some ⟨w.heap.size + 1, 0, none⟩ : Option Addr) = some q) := ⟨_, rfl⟩
  go_loopw [1, 5, 6] (fun v o i wr => ∃ j : Nat, j ≤ p ∧ i = .int .i64 j ∧ v = .int .i64 (divN s.signs j n) ∧ Below w0.heap.size w0 wr ∧ ∃ (q : Addr) (c : Nat), o = .slice (some q) j c ∧ Hid (wr.ownsRow w.heap.size 3 1 (.slice (some q) j c) j ((digits s.signs j n).map (Value.int .i64)))) (fun _ _ i _ => p - (intOf i).toNat)
  case atStart => exact ⟨0, by omega, rfl, rfl, Below.refl _ _, _, 0, rfl, hown0⟩
  case round =>
    obtain ⟨j, hj, rfl, rfl, hb, q, c, rfl, hown⟩ := hrel
    have hsz := hb.size
    have gc := (g0.below hb (by omega)).cell
    have s0 := gc 0; have s1 := gc 1
    simp at s0 s1
    rw [HP.out] at s0
    clear gc
    obtain ⟨hd0, hd1⟩ := divN_bd h3 hn j
    have HBW : Hid (Below w.heap.size w wr) := (hbw.trans (hb.mono (by omega)) : Below w.heap.size w wr)
    by_cases hlt : j < p
    · have hoc := (own_cells hown.out q rfl).2
      have HD : Hid (divN s.signs (j + 1) n = divN s.signs j n / s.signs) := (rfl : divN s.signs (j + 1) n = divN s.signs j n / s.signs)
      have HDC := Lib.hid (digits_cons s.signs j n)
      have hdl : ((digits s.signs j n).map (Value.int .i64)).length = j * 1 := by rw [List.length_map, digits_len]; omega
      obtain ⟨d, hd⟩ : ∃ d, d = divN s.signs j n := ⟨_, rfl⟩
      rw [← hd] at hd0 hd1 HD HDC ⊢
      have hcell : ∀ (jj : Nat) (u : Value), ((digits s.signs j n).map (Value.int .i64))[jj]? = some u → (wr.alloc (.cells #[.int .i64 (d % s.signs)] 3)).cell? (q.add jj) = some u := fun jj u hu => by
        have hc := hoc jj u hu
        rw [((Below.refl wr.heap.size wr).alloc (Nat.le_refl _) _).cell (World.block_lt_of_cell? wr _ hc)]
        exact hc
      have HCELL := Lib.hid hcell
      have HDL := Lib.hid hdl
      have hol := ownsRow_lit (w := wr) (base := wr.heap.size) (e := 3) #[.int .i64 (d % s.signs)] (Nat.le_refl _) (by simp [maxLen])
      have HOL := Lib.hid hol
      clear hcell hdl hoc hd hown hol
      go_wp2_with (at_builtin; refine wpList_append_own _ rfl _ _ 28 rfl wr.heap.size 3 i0 (.int .i64 0) 1 8 uInts hi iz0 iz1 iz2 rfl (by decide) _ _ _ rfl HOL.out q j c _ rfl HDL.out HCELL.out (by simp [Value.oneCell']) (by simp [maxLen]; omega) (by simp; omega) (by simp) ?_; intro v' w1 hown1 hgrow hnil; have hb1 : Below wr.heap.size wr w1 := ((Below.refl _ _).alloc (Nat.le_refl _) _).grown hgrow (by simp) (fun g hg => by cases hg; exact Nat.le_refl _); have s1' := ((g0.below hb (by omega)).below hb1 (by omega)).cell 1; simp at s1')
      have hz1 := hb1.size
      obtain ⟨q', c', rfl⟩ : ∃ q' c', v' = .slice (some q') (j + 1) c' := by
        rcases hown1.2 with ⟨hv, _⟩ | ⟨g, cap, cur, hv, _⟩
        · have := (hnil.1 hv).1; cases this
        · exact ⟨_, cap, by rw [hv]; congr 1; simp; omega⟩
      have HO1 : Hid (w1.ownsRow w.heap.size 3 1 (.slice (some q') (j + 1) c') (j + 1) ((digits s.signs (j + 1) n).map (Value.int .i64))) := by
        rw [HDC.out]
        have h2 := hown1
        rw [show (#[Value.int IntKind.i64 (d % s.signs)].size + j) = j + 1 by simp; omega] at h2
        refine ⟨h2.1, ?_⟩
        rcases h2.2 with h3 | ⟨g, cap, cur, hv, hbg, hrest⟩
        · exact .inl h3
        · exact .inr ⟨g, cap, cur, hv, by omega, hrest⟩
      clear hown1 hgrow hnil
      go_wp2
      go_roundw
      case rel => exact ⟨j + 1, by omega, by go_num, by rw [HD.out], hb.trans (hb1.mono hsz), q', c', rfl, HO1⟩
      case measure => simp [intOf]; omega
    · obtain rfl : j = p := by omega
      go_wp2
      go_ret
      refine ⟨_, rfl, ?_, HBW.out⟩
      have := hown.out
      rw [chartL, digits_len, HP.out, flat_one]
      simpa using this
end Go.Proofs.Ytidlmbajpbbilaa
namespace Go.Proofs.Ytidlmbajpbbilaa
open Go.RowKit

set_option maxRecDepth 100000 in
set_option maxHeartbeats 2000000 in
theorem ris_any (s : Sch) (R : Value) (A : Option Addr) (c : Nat) (l : List Int) (w : World) (hs : Small s) (hl : l.length ≤ 1000000) (hr : Sl intCell 1 w w.heap.size A l) :
    Calls Try.prog 42 #[scv s R, .slice A l.length c] w fun e w' => e = .returned (.bool (chartB s l)) ∧ Below w.heap.size w w' := by
  have HR := Lib.hid hr
  obtain ⟨q1, q2, q3, q4⟩ := hs
  clear hr
  go_enter Try.func42, Try.ntmps42
  go_wp2
  refine wp_world (fun W => Below w.heap.size w W ∧ w.heap.size < W.heap.size ∧ Blk W w.heap.size #[.int .i64 s.places, .int .i64 s.signs, .int .i64 s.kinds, .int .i64 s.answers, R] 24) ⟨(Below.refl _ _).alloc (Nat.le_refl _) _, by simp, Blk.at_ rfl⟩ ?_
  rintro w0 ⟨hbw, hz0, g0⟩
  go_loopw [5] (fun i wr => ∃ j : Nat, j ≤ l.length ∧ i = .int .i64 j ∧ Below w0.heap.size w0 wr ∧ Hid (l.all (fun x => inB x 0 (s.signs - 1)) = (l.drop j).all (fun x => inB x 0 (s.signs - 1)))) (fun i _ => l.length - (intOf i).toNat)
  case atStart => exact ⟨0, by omega, rfl, Below.refl _ _, rfl⟩
  case round =>
    obtain ⟨j, hj, rfl, hb, HA⟩ := hrel
    have hsz := hb.size
    have hbr : Below w.heap.size w wr := hbw.trans (hb.mono (by omega))
    have gc := (g0.below hb (by omega)).cell
    have s0 := gc 0; have s1 := gc 1; have s2 := gc 2; have s3 := gc 3; have s4 := gc 4
    simp at s0 s1 s2 s3 s4
    have l0 : w.heap.size < wr.heap.size := by omega
    clear gc
    by_cases hlt : j < l.length
    · obtain ⟨ab, ao, rfl, hblk, hcell⟩ := (HR.out.below hbr).at_ (k := j) (fun _ => rfl) hlt
      have HD := Lib.hid (all_drop (p := fun x => inB x 0 (s.signs - 1)) hlt)
      obtain ⟨x, hx⟩ : ∃ t, l[j] = t := ⟨_, rfl⟩
      rw [hx] at hcell HD
      clear hx
      have c0 : wr.cell? ⟨ab, ao + j, none⟩ = some (.int .i64 x) := by have := hcell 0 _ rfl; simpa using this
      have hj0 : (0 : Int) ≤ (j : Int) := by omega
      have hj1 : (j : Int) < (l.length : Int) := by omega
      have hw1 : IntKind.i64.wrap (s.signs - 1) = s.signs - 1 := IntWalk.i64_in _ (by omega)
      clear hcell
      by_cases f1 : inB x 0 (s.signs - 1) = true
      · have HT : Hid (l.all (fun x => inB x 0 (s.signs - 1)) = (l.drop (j + 1)).all (fun x => inB x 0 (s.signs - 1))) := (by rw [HA.out, HD.out, f1]; rfl : l.all (fun x => inB x 0 (s.signs - 1)) = (l.drop (j + 1)).all (fun x => inB x 0 (s.signs - 1)))
        go_wp2
        (refine wp_region_ext (by kernel_rfl) (by kernel_rfl) ?_; (repeat (go_big_quiet_step((go_at_call 60; first | exact Calls.ext_same (rin_val (by assumption) _))))); with_reducible refine wpQuiet_nil ?_; intro w2 hw2; have hb1 := ext_below hw2; clear hw2)
        go_wp2
        go_roundw
        case rel => exact ⟨j + 1, by omega, by go_num, hb.trans (hb1.mono hsz), HT⟩
        case measure => simp [intOf]; omega
      · simp only [Bool.not_eq_true] at f1
        have HT : Hid (chartB s l = false) := (by unfold chartB; rw [HA.out, HD.out, f1]; simp : chartB s l = false)
        go_wp2
        (refine wp_region_ext (by kernel_rfl) (by kernel_rfl) ?_; (repeat (go_big_quiet_step((go_at_call 60; first | exact Calls.ext_same (rin_val (by assumption) _))))); with_reducible refine wpQuiet_nil ?_; intro w2 hw2; have hb1 := ext_below hw2; clear hw2)
        go_wp2
        go_ret
        exact ⟨ret_bool HT.out.symm, hbr.trans (hb1.mono hbr.size)⟩
    · have HT : Hid (chartB s l = ((l.length : Int) == s.places)) := (by unfold chartB; rw [HA.out, List.drop_eq_nil_of_le (by omega)]; rw [Bool.eq_iff_iff]; simp : chartB s l = ((l.length : Int) == s.places))
      go_wp2
      go_ret
      exact ⟨ret_bool HT.out.symm, hbr⟩

set_option maxRecDepth 100000 in
set_option maxHeartbeats 2000000 in
theorem rnumber_any (s : Sch) (R : Value) (A : Option Addr) (c : Nat) (l : List Int) (w : World) (hs : Small s) (hc : chartB s l = true) (hr : Sl intCell 1 w w.heap.size A l) :
    Calls Try.prog 43 #[scv s R, .slice A l.length c] w fun e w' => e = .returned (.int .i64 (numN s.signs l)) ∧ Below w.heap.size w w' := by
  have hlen : l.length ≤ 6 := by have := hs.2.1; simp [chartB] at hc; omega
  have hfs : ∀ j, (h : j < l.length) → 0 ≤ l[j] ∧ l[j] < s.signs := fun j h => by
    simp [chartB, inB] at hc
    have := hc.2 _ (List.getElem_mem h); omega
  have HR := Lib.hid hr
  have HFS := Lib.hid hfs
  obtain ⟨q1, q2, q3, q4⟩ := hs
  clear hr hfs hc
  go_enter Try.func43, Try.ntmps43
  go_wp2
  refine wp_world (fun W => Below w.heap.size w W ∧ w.heap.size < W.heap.size ∧ Blk W w.heap.size #[.int .i64 s.places, .int .i64 s.signs, .int .i64 s.kinds, .int .i64 s.answers, R] 24) ⟨(Below.refl _ _).alloc (Nat.le_refl _) _, by simp, Blk.at_ rfl⟩ ?_
  rintro w0 ⟨hbw, hz0, g0⟩
  go_loopw [5, 6] (fun v i wr => ∃ j : Nat, j ≤ l.length ∧ i = .int .i64 j ∧ v = .int .i64 (numN s.signs (l.take j)) ∧ 0 ≤ numN s.signs (l.take j) ∧ Hid (numN s.signs (l.take j) < 64 ^ j) ∧ Below w0.heap.size w0 wr) (fun _ i _ => l.length - (intOf i).toNat)
  case atStart => exact ⟨0, by omega, rfl, rfl, by simp [numN], (by simp [numN] : numN s.signs (l.take 0) < 64 ^ 0), Below.refl _ _⟩
  case round =>
    obtain ⟨j, hj, rfl, rfl, hn0, HN1, hb⟩ := hrel
    have hsz := hb.size
    have hbr : Below w.heap.size w wr := hbw.trans (hb.mono (by omega))
    have gc := (g0.below hb (by omega)).cell
    have s0 := gc 0; have s1 := gc 1; have s2 := gc 2; have s3 := gc 3; have s4 := gc 4
    simp at s0 s1 s2 s3 s4
    have l0 : w.heap.size < wr.heap.size := by omega
    clear gc
    obtain ⟨x, hx⟩ : ∃ x, x = numN s.signs (l.take j) := ⟨_, rfl⟩
    rw [← hx] at hn0 HN1 ⊢
    by_cases hlt : j < l.length
    · have hn1 := HN1.out
      have hpow : (64 : Int) ^ j ≤ 64 ^ 5 := by
        have h := Nat.pow_le_pow_right (n := 64) (by omega) (show j ≤ 5 by omega)
        exact_mod_cast h
      obtain ⟨hf0, hf1⟩ := HFS.out j hlt
      obtain ⟨ab, ao, rfl, hblk, hcell⟩ := (HR.out.below hbr).at_ (k := j) (fun _ => rfl) hlt
      have c0 : wr.cell? ⟨ab, ao + j, none⟩ = some (.int .i64 l[j]) := by have := hcell 0 _ rfl; simpa using this
      have hm0 : 0 ≤ x * s.signs := Int.mul_nonneg hn0 (by omega)
      have hm1 : x * s.signs ≤ x * 64 := Int.mul_le_mul_of_nonneg_left (by omega) hn0
      have hs2 : Hid (numN s.signs (l.take (j + 1)) = x * s.signs + l[j]) := by show _ = _; rw [numN_succ _ _ hlt, hx]
      have hp6 : (64 : Int) ^ (j + 1) = 64 ^ j * 64 := Int.pow_succ 64 j
      have hbd : Hid (x * s.signs + l[j] < 64 ^ (j + 1)) := Lib.hid (by omega)
      obtain ⟨f, hf⟩ : ∃ f, f = l[j] := ⟨_, rfl⟩
      rw [← hf] at c0 hf0 hf1 hs2 hbd
      simp only [Int.reducePow] at hpow
      have hx5 : x < 1073741824 := by omega
      have hm2 : x * s.signs ≤ 68719476736 := by omega
      have hj0 : (0 : Int) ≤ (j : Int) := by omega
      have hj1 : (j : Int) < (l.length : Int) := by omega
      have hw1 : IntKind.i64.wrap (x * s.signs) = x * s.signs := IntWalk.i64_in _ (by omega)
      have hw2 : IntKind.i64.wrap (x * s.signs + f) = x * s.signs + f := IntWalk.i64_in _ (by omega)
      clear hp6 hcell hx hf hpow hn1 hm1
      go_wp2
      (refine wp_region_ext (by kernel_rfl) (by kernel_rfl) ?_; (repeat (go_big_quiet_step((fail)))); with_reducible refine wpQuiet_nil ?_; intro w2 hw2; have hb1 := ext_below hw2; clear hw2)
      go_wp2
      go_roundw
      case rel => exact ⟨j + 1, by omega, by go_num, by rw [hs2.out], by rw [hs2.out]; omega, by rw [hs2.out]; exact hbd, hb.trans (hb1.mono hsz)⟩
      case measure => simp [intOf]; omega
    · obtain rfl : j = l.length := by omega
      rw [List.take_length] at hx
      subst hx
      go_wp2
      go_ret
      exact ⟨rfl, hbr⟩

set_option maxRecDepth 100000 in
set_option maxHeartbeats 2000000 in
theorem rregion_any (s : Sch) (R : Value) (A : Option Addr) (c : Nat) (l : List Int) (w : World) (hs : Small s) (hl : l.length ≤ 1000000) (ho : ∀ x ∈ l, IsU64 x) (hr : Sl setCell1 1 w w.heap.size A l) :
    Calls Try.prog 20 #[scv s R, .slice A l.length c] w fun e w' => e = .returned (.bool (regB s l)) ∧ Below w.heap.size w w' := by
  have HR := Lib.hid hr
  have HO := Lib.hid ho
  obtain ⟨q1, q2, q3, q4⟩ := hs
  clear hr ho
  go_enter Try.func20, Try.ntmps20
  go_wp2
  refine wp_world (fun W => Below w.heap.size w W ∧ w.heap.size < W.heap.size ∧ Blk W w.heap.size #[.int .i64 s.places, .int .i64 s.signs, .int .i64 s.kinds, .int .i64 s.answers, R] 24) ⟨(Below.refl _ _).alloc (Nat.le_refl _) _, by simp, Blk.at_ rfl⟩ ?_
  rintro w0 ⟨hbw, hz0, g0⟩
  go_loopw [5] (fun i wr => ∃ j : Nat, j ≤ l.length ∧ i = .int .i64 j ∧ Below w0.heap.size w0 wr ∧ Hid (l.all (fitsB s.signs) = (l.drop j).all (fitsB s.signs))) (fun i _ => l.length - (intOf i).toNat)
  case atStart => exact ⟨0, by omega, rfl, Below.refl _ _, rfl⟩
  case round =>
    obtain ⟨j, hj, rfl, hb, HA⟩ := hrel
    have hsz := hb.size
    have hbr : Below w.heap.size w wr := hbw.trans (hb.mono (by omega))
    have gc := (g0.below hb (by omega)).cell
    have s0 := gc 0; have s1 := gc 1; have s2 := gc 2; have s3 := gc 3; have s4 := gc 4
    simp at s0 s1 s2 s3 s4
    have l0 : w.heap.size < wr.heap.size := by omega
    clear gc
    by_cases hlt : j < l.length
    · obtain ⟨ab, ao, rfl, hblk, hcell⟩ := (HR.out.below hbr).at_ (k := j) (fun _ => rfl) hlt
      have HD := Lib.hid (all_drop (p := fitsB s.signs) hlt)
      have hox := HO.out _ (List.getElem_mem hlt)
      obtain ⟨x, hx⟩ : ∃ t, l[j] = t := ⟨_, rfl⟩
      rw [hx] at hcell HD hox
      clear hx
      have HSET := fun W => Lib.hid (rset_any s x R q3 q4 hox W)
      have c0 : wr.cell? ⟨ab, ao + j, none⟩ = some (.int .u64 x) := by have := hcell 0 _ rfl; simpa using this
      have hj0 : (0 : Int) ≤ (j : Int) := by omega
      have hj1 : (j : Int) < (l.length : Int) := by omega
      clear hcell hox
      by_cases f1 : fitsB s.signs x = true
      · have HT : Hid (l.all (fitsB s.signs) = (l.drop (j + 1)).all (fitsB s.signs)) := (by rw [HA.out, HD.out, f1]; rfl : l.all (fitsB s.signs) = (l.drop (j + 1)).all (fitsB s.signs))
        rw [f1] at HSET
        go_wp2
        (refine wp_region_ext (by kernel_rfl) (by kernel_rfl) ?_; (repeat (go_big_quiet_step((go_at_call 62; with_reducible exact Calls.ext_of (HSET _).out)))); with_reducible refine wpQuiet_nil ?_; intro w2 hw2; have hb1 := ext_below hw2; clear hw2)
        go_wp2
        go_roundw
        case rel => exact ⟨j + 1, by omega, by go_num, hb.trans (hb1.mono hsz), HT⟩
        case measure => simp [intOf]; omega
      · simp only [Bool.not_eq_true] at f1
        have HT : Hid (regB s l = false) := (by unfold regB; rw [HA.out, HD.out, f1]; simp : regB s l = false)
        rw [f1] at HSET
        go_wp2
        (refine wp_region_ext (by kernel_rfl) (by kernel_rfl) ?_; (repeat (go_big_quiet_step((go_at_call 62; with_reducible exact Calls.ext_of (HSET _).out)))); with_reducible refine wpQuiet_nil ?_; intro w2 hw2; have hb1 := ext_below hw2; clear hw2)
        go_wp2
        go_ret
        exact ⟨ret_bool HT.out.symm, hbr.trans (hb1.mono hbr.size)⟩
    · have HT : Hid (regB s l = ((l.length : Int) == s.places)) := (by unfold regB; rw [HA.out, List.drop_eq_nil_of_le (by omega)]; rw [Bool.eq_iff_iff]; simp : regB s l = ((l.length : Int) == s.places))
      go_wp2
      go_ret
      exact ⟨ret_bool HT.out.symm, hbr⟩

theorem hasB_drop (xs : List Int) : ∀ (fs : List Int) (k : Nat) (h : k < fs.length) (h' : k < xs.length), hasB (xs.drop k) (fs.drop k) = (bitB xs[k] fs[k] && hasB (xs.drop (k + 1)) (fs.drop (k + 1))) := fun fs k h h' => by
  rw [List.drop_eq_getElem_cons h, List.drop_eq_getElem_cons h']; rfl
set_option maxRecDepth 100000 in
set_option maxHeartbeats 2000000 in
theorem rhas_any (A A2 : Option Addr) (c c2 : Nat) (l fs : List Int) (w : World) (hl : fs.length ≤ 1000000) (hn : l.length = fs.length) (ho : ∀ x ∈ l, IsU64 x) (hf : ∀ x ∈ fs, 0 ≤ x ∧ x ≤ 63)
    (hr : Sl setCell1 1 w w.heap.size A l) (hr2 : Sl intCell 1 w w.heap.size A2 fs) :
    Calls Try.prog 63 #[.slice A l.length c, .slice A2 fs.length c2] w fun e w' => e = .returned (.bool (hasB l fs)) ∧ Below w.heap.size w w' := by
  have HO := Lib.hid ho; have HF := Lib.hid hf; have HR := Lib.hid hr; have HR2 := Lib.hid hr2; have HN := Lib.hid hn
  clear ho hf hr hr2
  have hn1 : l.length ≤ fs.length := by omega
  have hn2 : fs.length ≤ l.length := by omega
  clear hn
  go_enter Try.func63, Try.ntmps63
  go_wp2
  go_loopw [5] (fun i wr => ∃ k : Nat, k ≤ fs.length ∧ i = .int .i64 k ∧ Below w.heap.size w wr ∧ Hid (hasB l fs = hasB (l.drop k) (fs.drop k))) (fun i _ => fs.length - (intOf i).toNat)
  case atStart => exact ⟨0, by omega, rfl, Below.refl _ _, rfl⟩
  case round =>
    obtain ⟨k, hk, rfl, hb, HA⟩ := hrel
    have hsz := hb.size
    by_cases hlt : k < fs.length
    · have hlt2 : k < l.length := by omega
      have HD := Lib.hid (hasB_drop l fs k hlt hlt2)
      obtain ⟨ab, ao, rfl, hblk, hcell⟩ := (HR.out.below hb).at_ (k := k) (fun _ => rfl) hlt2
      obtain ⟨cb, co, rfl, hblk2, hcell2⟩ := (HR2.out.below hb).at_ (k := k) (fun _ => rfl) hlt
      have hxb := HO.out _ (List.getElem_mem hlt2)
      have hfb := HF.out _ (List.getElem_mem hlt)
      obtain ⟨x, hx⟩ : ∃ t, l[k] = t := ⟨_, rfl⟩
      obtain ⟨f, hf⟩ : ∃ t, fs[k] = t := ⟨_, rfl⟩
      rw [hx] at hcell hxb HD
      rw [hf] at hcell2 hfb HD
      have hbt := bit_u64 x f hxb
      unfold IsU64 at hxb
      have c0 : wr.cell? ⟨ab, ao + k, none⟩ = some (.int .u64 x) := by have := hcell 0 _ rfl; simpa using this
      have c1 : wr.cell? ⟨cb, co + k, none⟩ = some (.int .i64 f) := by have := hcell2 0 _ rfl; simpa using this
      have hj0 : (0 : Int) ≤ (k : Int) := by omega
      have hj1 : (k : Int) < (fs.length : Int) := by omega
      have hj2 : (k : Int) < (l.length : Int) := by omega
      obtain ⟨hf0, hf1⟩ := hfb
      obtain ⟨hx0, hx1⟩ := hxb
      have hw3 : IntKind.u64.wrap f = f := IntWalk.u64_in _ ⟨by omega, by omega⟩
      clear hcell hcell2 hx hf
      by_cases f1 : bitB x f = true
      · have HT : Hid (hasB l fs = hasB (l.drop (k + 1)) (fs.drop (k + 1))) := (by rw [HA.out, HD.out, f1]; rfl : hasB l fs = hasB (l.drop (k + 1)) (fs.drop (k + 1)))
        rw [f1] at hbt
        have hbt : (bits BinOp.and IntKind.u64 (x / 2 ^ f.toNat) 1 == 0) = false := hbt
        go_wp2
        (refine wp_region_ext (by kernel_rfl) (by kernel_rfl) ?_; (repeat (go_big_quiet_step((fail)))); with_reducible refine wpQuiet_nil ?_; intro w2 hw2; have hb1 := ext_below hw2; clear hw2)
        go_wp2
        go_roundw
        case rel => exact ⟨k + 1, by omega, by go_num, hb.trans (hb1.mono hsz), HT⟩
        case measure => simp [intOf]; omega
      · simp only [Bool.not_eq_true] at f1
        have HT : Hid (hasB l fs = false) := (by rw [HA.out, HD.out, f1]; rfl : hasB l fs = false)
        rw [f1] at hbt
        have hbt : (bits BinOp.and IntKind.u64 (x / 2 ^ f.toNat) 1 == 0) = true := hbt
        go_wp2
        (refine wp_region_ext (by kernel_rfl) (by kernel_rfl) ?_; (repeat (go_big_quiet_step((fail)))); with_reducible refine wpQuiet_nil ?_; intro w2 hw2; have hb1 := ext_below hw2; clear hw2)
        go_wp2
        go_ret
        exact ⟨ret_bool HT.out.symm, hb.trans (hb1.mono hsz)⟩
    · have HT : Hid (hasB l fs = true) := (by rw [HA.out, List.drop_eq_nil_of_le (by omega : fs.length ≤ k)]; cases l.drop k <;> rfl : hasB l fs = true)
      go_wp2
      go_ret
      exact ⟨ret_bool HT.out.symm, hb⟩
end Go.Proofs.Ytidlmbajpbbilaa
namespace Go.Proofs.Ytidlmbajpbbilaa
open Go.RowKit

/-- a test that a valid school may have: its kind too -/
def TestFit3 (n : Nat) (t : Tst) : Prop := TestFit n t ∧ (t.kind = 1 ∨ t.kind = 2 ∨ t.kind = 3)
theorem tstB_fit3 {s : Sch} {t : Tst} (ht : t.ok) (hp : 1 ≤ s.places) (h : tstB s t = true) : TestFit3 s.places.toNat t := by
  refine ⟨tstB_fit ht hp h, ?_⟩
  simp only [tstB, Bool.and_eq_true, Bool.or_eq_true, beq_iff_eq, bne_iff_ne] at h
  omega
set_option maxRecDepth 100000 in
set_option maxHeartbeats 4000000 in
theorem rholds_any (A A2 : Option Addr) (c c2 : Nat) (ch : List Int) (ts : List Tst) (w : World) (n : Nat) (hn : n = ch.length) (hl : ts.length ≤ 1000000) (ho : ∀ t ∈ ts, TestFit3 n t) (hf : ∀ x ∈ ch, 0 ≤ x ∧ x ≤ 63)
    (hr : Sl Tst.cells 4 w w.heap.size A ts) (hr2 : Sl intCell 1 w w.heap.size A2 ch) :
    Calls Try.prog 71 #[.slice A ts.length c, .slice A2 ch.length c2] w fun e w' => e = .returned (.bool (holdsB ch ts)) ∧ Below w.heap.size w w' := by
  have HO := Lib.hid ho; have HF := Lib.hid hf; have HR := Lib.hid hr; have HR2 := Lib.hid hr2; have HN := Lib.hid hn
  clear ho hf hr hr2 hn
  go_enter Try.func71, Try.ntmps71
  go_wp2
  go_loopw [5] (fun i wr => ∃ j : Nat, j ≤ ts.length ∧ i = .int .i64 j ∧ Below w.heap.size w wr ∧ Hid (holdsB ch ts = (ts.drop j).all (holdB ch))) (fun i _ => ts.length - (intOf i).toNat)
  case atStart => exact ⟨0, by omega, rfl, Below.refl _ _, rfl⟩
  case round =>
    obtain ⟨j, hj, rfl, hb, HA⟩ := hrel
    have hsz := hb.size
    by_cases hlt : j < ts.length
    · obtain ⟨tb, to', rfl, htk, htcell⟩ := (HR.out.below hb).at_ (k := j) (fun _ => rfl) hlt
      have HD := Lib.hid (all_drop (p := holdB ch) hlt)
      have hft := HO.out _ (List.getElem_mem hlt)
      obtain ⟨t, ht⟩ : ∃ t, ts[j] = t := ⟨_, rfl⟩
      rw [ht] at htcell HD hft
      clear ht
      obtain ⟨⟨ht0, hp0, hp1, hq0, hq1⟩, hkk⟩ := hft
      have hu := ht0.2
      obtain ⟨tk, tp, to, tt⟩ := t
      simp only at *
      obtain ⟨p, rfl⟩ := Int.eq_ofNat_of_zero_le hp0
      obtain ⟨q, rfl⟩ := Int.eq_ofNat_of_zero_le hq0
      have hnn := HN.out
      have hpl : p < ch.length := by omega
      have hql : q < ch.length := by omega
      obtain ⟨ab, ao, rfl, hblk, hcell⟩ := (HR2.out.below hb).at_ (k := p) (fun _ => rfl) hpl
      obtain ⟨ab', ao', e, hblk', hcell'⟩ := (HR2.out.below hb).at_ (k := q) (fun _ => rfl) hql
      cases e
      have hfb := HF.out _ (List.getElem_mem hpl)
      have hgb := HF.out _ (List.getElem_mem hql)
      obtain ⟨f, hfe⟩ : ∃ t, ch[p] = t := ⟨_, rfl⟩
      obtain ⟨g, hge⟩ : ∃ t, ch[q] = t := ⟨_, rfl⟩
      have e1 : ch.getD p 0 = f := by rw [← hfe]; simp [List.getD, List.getElem?_eq_getElem hpl]
      have e2 : ch.getD q 0 = g := by rw [← hge]; simp [List.getD, List.getElem?_eq_getElem hql]
      rw [hfe] at hcell hfb
      rw [hge] at hcell' hgb
      have c0 : wr.cell? ⟨ab, ao + p, none⟩ = some (.int .i64 f) := by have := hcell 0 _ rfl; simpa using this
      have c1 : wr.cell? ⟨ab, ao + q, none⟩ = some (.int .i64 g) := by have := hcell' 0 _ rfl; simpa using this
      have E : Hid (holdB ch ⟨tk, p, q, tt⟩ = if tk == 1 then bitB tt f else if tk == 2 then f == g else f != g) := (by simp only [holdB, Int.toNat_natCast, e1, e2] : holdB ch ⟨tk, p, q, tt⟩ = _)
      have t0 : wr.cell? ⟨tb, to' + j * 4, none⟩ = some (Value.int .i64 tk) := htcell 0 _ rfl
      have t1 : wr.cell? ⟨tb, to' + j * 4 + 1, none⟩ = some (Value.int .i64 p) := htcell 1 _ rfl
      have t2 : wr.cell? ⟨tb, to' + j * 4 + 2, none⟩ = some (Value.int .i64 q) := htcell 2 _ rfl
      have t3 : wr.cell? ⟨tb, to' + j * 4 + 3, none⟩ = some (Value.int .u64 tt) := htcell 3 _ rfl
      have hpi : (p : Int) < (ch.length : Int) := by omega
      have hqi : (q : Int) < (ch.length : Int) := by omega
      have ab1 : ab < wr.heap.size := by omega
      obtain ⟨hf0, hf1⟩ := hfb
      have hbt := bit_u64 tt f hu
      have hw3 : IntKind.u64.wrap f = f := IntWalk.u64_in _ ⟨by omega, by omega⟩
      obtain ⟨hx0, hx1⟩ := hu
      clear hcell hcell' htcell hfe hge e1 e2 ht0 hgb hnn
      by_cases k1 : (tk == 1) = true
      · have k2 : (tk == 2) = false := by simp only [beq_iff_eq] at k1; simp [k1]
        have k3 : (tk == 3) = false := by simp only [beq_iff_eq] at k1; simp [k1]
        clear hkk
        by_cases f1 : bitB tt f = true
        · have HH : Hid (holdB ch ⟨tk, p, q, tt⟩ = true) := (by rw [E.out, if_pos k1, f1] : holdB ch ⟨tk, p, q, tt⟩ = true)
          rw [f1] at hbt
          have hbt : (bits BinOp.and IntKind.u64 (tt / 2 ^ f.toNat) 1 == 0) = false := hbt
          have HT : Hid (holdsB ch ts = (ts.drop (j + 1)).all (holdB ch)) := (by rw [HA.out, HD.out, HH.out]; rfl : holdsB ch ts = (ts.drop (j + 1)).all (holdB ch))
          go_wp2
          (refine wp_region_ext (by kernel_rfl) (by kernel_rfl) ?_; (repeat (go_big_quiet_step((fail)))); with_reducible refine wpQuiet_nil ?_; intro w2 hw2; have hb1 := ext_below hw2; clear hw2)
          go_wp2
          go_roundw
          case rel => exact ⟨j + 1, by omega, by go_num, (hb.alloc (by omega) _).trans (hb1.mono (by simp; omega)), HT⟩
          case measure => simp [intOf]; omega
        · simp only [Bool.not_eq_true] at f1
          have HH : Hid (holdB ch ⟨tk, p, q, tt⟩ = false) := (by rw [E.out, if_pos k1, f1] : holdB ch ⟨tk, p, q, tt⟩ = false)
          rw [f1] at hbt
          have hbt : (bits BinOp.and IntKind.u64 (tt / 2 ^ f.toNat) 1 == 0) = true := hbt
          have HT : Hid (holdsB ch ts = false) := (by rw [HA.out, HD.out, HH.out]; rfl : holdsB ch ts = false)
          go_wp2
          (refine wp_region_ext (by kernel_rfl) (by kernel_rfl) ?_; (repeat (go_big_quiet_step((fail)))); with_reducible refine wpQuiet_nil ?_; intro w2 hw2; have hb1 := ext_below hw2; clear hw2)
          go_wp2
          go_ret
          exact ⟨ret_bool HT.out.symm, (hb.alloc (by omega) _).trans (hb1.mono (by simp; omega))⟩
      · simp only [Bool.not_eq_true] at k1
        clear hbt
        by_cases k2 : (tk == 2) = true
        · have k3 : (tk == 3) = false := by simp only [beq_iff_eq] at k2; simp [k2]
          have EE : Hid (holdB ch ⟨tk, p, q, tt⟩ = (f == g)) := (by rw [E.out, k1, if_neg (by simp), if_pos k2] : holdB ch ⟨tk, p, q, tt⟩ = (f == g))
          clear hkk
          by_cases fg : (f == g) = true
          · have HH : Hid (holdB ch ⟨tk, p, q, tt⟩ = true) := (EE.out.trans fg : holdB ch ⟨tk, p, q, tt⟩ = true)
            have fg2 : (f != g) = false := by simp only [beq_iff_eq] at fg; simp [fg]
            have HT : Hid (holdsB ch ts = (ts.drop (j + 1)).all (holdB ch)) := (by rw [HA.out, HD.out, HH.out]; rfl : holdsB ch ts = (ts.drop (j + 1)).all (holdB ch))
            go_wp2
            (refine wp_region_ext (by kernel_rfl) (by kernel_rfl) ?_; (repeat (go_big_quiet_step((fail)))); with_reducible refine wpQuiet_nil ?_; intro w2 hw2; have hb1 := ext_below hw2; clear hw2)
            go_wp2
            go_roundw
            case rel => exact ⟨j + 1, by omega, by go_num, (hb.alloc (by omega) _).trans (hb1.mono (by simp; omega)), HT⟩
            case measure => simp [intOf]; omega
          · simp only [Bool.not_eq_true] at fg
            have HH : Hid (holdB ch ⟨tk, p, q, tt⟩ = false) := (EE.out.trans fg : holdB ch ⟨tk, p, q, tt⟩ = false)
            have fg2 : (f != g) = true := by simpa using fg
            have HT : Hid (holdsB ch ts = false) := (by rw [HA.out, HD.out, HH.out]; rfl : holdsB ch ts = false)
            go_wp2
            (refine wp_region_ext (by kernel_rfl) (by kernel_rfl) ?_; (repeat (go_big_quiet_step((fail)))); with_reducible refine wpQuiet_nil ?_; intro w2 hw2; have hb1 := ext_below hw2; clear hw2)
            go_wp2
            go_ret
            exact ⟨ret_bool HT.out.symm, (hb.alloc (by omega) _).trans (hb1.mono (by simp; omega))⟩
        · simp only [Bool.not_eq_true] at k2
          have k3 : (tk == 3) = true := by simp at k1 k2 ⊢; omega
          have EE : Hid (holdB ch ⟨tk, p, q, tt⟩ = (f != g)) := (by rw [E.out, k1, if_neg (by simp), k2, if_neg (by simp)] : holdB ch ⟨tk, p, q, tt⟩ = (f != g))
          clear hkk
          by_cases fg : (f == g) = true
          · have fg2 : (f != g) = false := by simp only [beq_iff_eq] at fg; simp [fg]
            have HH : Hid (holdB ch ⟨tk, p, q, tt⟩ = false) := (EE.out.trans fg2 : holdB ch ⟨tk, p, q, tt⟩ = false)
            have HT : Hid (holdsB ch ts = false) := (by rw [HA.out, HD.out, HH.out]; rfl : holdsB ch ts = false)
            go_wp2
            (refine wp_region_ext (by kernel_rfl) (by kernel_rfl) ?_; (repeat (go_big_quiet_step((fail)))); with_reducible refine wpQuiet_nil ?_; intro w2 hw2; have hb1 := ext_below hw2; clear hw2)
            go_wp2
            go_ret
            exact ⟨ret_bool HT.out.symm, (hb.alloc (by omega) _).trans (hb1.mono (by simp; omega))⟩
          · simp only [Bool.not_eq_true] at fg
            have fg2 : (f != g) = true := by simpa using fg
            have HH : Hid (holdB ch ⟨tk, p, q, tt⟩ = true) := (EE.out.trans fg2 : holdB ch ⟨tk, p, q, tt⟩ = true)
            have HT : Hid (holdsB ch ts = (ts.drop (j + 1)).all (holdB ch)) := (by rw [HA.out, HD.out, HH.out]; rfl : holdsB ch ts = (ts.drop (j + 1)).all (holdB ch))
            go_wp2
            (refine wp_region_ext (by kernel_rfl) (by kernel_rfl) ?_; (repeat (go_big_quiet_step((fail)))); with_reducible refine wpQuiet_nil ?_; intro w2 hw2; have hb1 := ext_below hw2; clear hw2)
            go_wp2
            go_roundw
            case rel => exact ⟨j + 1, by omega, by go_num, (hb.alloc (by omega) _).trans (hb1.mono (by simp; omega)), HT⟩
            case measure => simp [intOf]; omega
    · have HT : Hid (holdsB ch ts = true) := (by rw [HA.out, List.drop_eq_nil_of_le (by omega)]; rfl : holdsB ch ts = true)
      go_wp2
      go_ret
      exact ⟨ret_bool HT.out.symm, hb⟩
end Go.Proofs.Ytidlmbajpbbilaa
namespace Go.Proofs.Ytidlmbajpbbilaa
open Go.RowKit

/-- who speaks, of the first i rules; v at place i -/
def spkA (f : Nat → Bool) (n i : Nat) (v : Bool) : List Value := (List.range n).map fun j => Value.bool (if j = i then v else decide (j < i) && f j)
theorem spkA_get {f : Nat → Bool} {n i j : Nat} {v : Bool} (h : j < n) : (spkA f n i v).toArray[j]? = some (.bool (if j = i then v else decide (j < i) && f j)) := by
  simp [spkA, h]
theorem spkA_set {f : Nat → Bool} {n i : Nat} {v v' : Bool} : (spkA f n i v).toArray.setIfInBounds i (.bool v') = (spkA f n i v').toArray := by
  rw [List.setIfInBounds_toArray]
  congr 1
  apply List.ext_getElem (by simp [spkA])
  intro k h1 h2
  simp only [spkA, List.length_set, List.length_map, List.length_range] at h1
  rw [List.getElem_set]
  by_cases hk : i = k
  · subst hk; simp [spkA]
  · have : ¬ k = i := fun e => hk e.symm
    simp [spkA, hk, this]
theorem spkA_next (f : Nat → Bool) (n i : Nat) : spkA f n i (f i) = spkA f n (i + 1) false := by
  unfold spkA
  refine List.map_congr_left fun j _ => ?_
  congr 1
  by_cases h1 : j = i
  · subst h1; simp
  · by_cases h2 : j = i + 1
    · subst h2; rw [if_neg h1, if_pos rfl]; have : decide (i + 1 < i) = false := by simp
      rw [this]; rfl
    · rw [if_neg h1, if_neg h2]
      have : decide (j < i) = decide (j < i + 1) := by simp; omega
      rw [this]
theorem spkA_zero (f : Nat → Bool) (n : Nat) : List.replicate n (Value.bool false) = spkA f n 0 false := by
  apply List.ext_getElem (by simp [spkA])
  intro k h1 h2
  simp [spkA]
theorem i64_is1 (r : Rul) (kind : Int) (h0 : 0 ≤ r.kinds) (h1 : r.kinds < 16) : (bits BinOp.and IntKind.i64 (r.kinds / 2 ^ kind.toNat) 1 == 1) = kbit r kind := by
  have hp : (0 : Int) < 2 ^ kind.toNat := Int.pow_pos (by omega)
  have h2 : 0 ≤ r.kinds / 2 ^ kind.toNat := Int.ediv_nonneg h0 (by omega)
  have h3 : r.kinds / 2 ^ kind.toNat ≤ r.kinds := Int.ediv_le_self _ h0
  unfold kbit
  obtain ⟨x, hx⟩ := Int.eq_ofNat_of_zero_le h2
  have e : bits BinOp.and IntKind.i64 (x : Int) 1 = ((x % 2 : Nat) : Int) := by
    have hx2 : x &&& 1 < 2 ^ 63 := Nat.and_lt_two_pow _ (by omega)
    show IntKind.i64.wrap ((BitVec.ofInt 64 (x : Int) &&& BitVec.ofInt 64 ((1 : Nat) : Int)).toNat : Int) = _
    rw [BitVec.toNat_and, BitVec.ofInt_natCast, BitVec.ofInt_natCast, BitVec.toNat_ofNat, BitVec.toNat_ofNat, Nat.mod_eq_of_lt (by omega), Nat.mod_eq_of_lt (by omega), Nat.and_one_is_mod, IntKind.wrap_i64]
    omega
  rw [hx, e]
  have hc : ((x : Int) % 2) = ((x % 2 : Nat) : Int) := by omega
  rw [hc]
/-- the rules that hold, as a reading asks for them -/
abbrev holdF (s : Sch) (ch : List Int) (i : Nat) : Bool := (bset (appl s ch) s.rules.length).testBit i && !(0 : Nat).testBit i
abbrev spF (s : Sch) (kind : Int) (ch : List Int) : Nat → Bool := sp s (holdF s ch) kind
theorem spF_eq {s : Sch} (V : Valid s) (kind : Int) (ch : List Int) {i : Nat} (h : i < s.rules.length) :
    spF s kind ch i = (kbit s.rules[i] kind && holdsB ch s.rules[i].when_ && !(s.rules[i].unless_.any fun u => spF s kind ch u.toNat)) := by
  rw [spF, sp_eq s _ kind i h (V.rule i h).unl]
  have : holdF s ch i = holdsB ch s.rules[i].when_ := by
    simp [holdF, bset_testBit, h, appl]
  rw [this]
  cases kbit s.rules[i] kind <;> cases holdsB ch s.rules[i].when_ <;> simp
theorem any_take_succ {α : Type} {p : α → Bool} {l : List α} {k : Nat} (h : k < l.length) : (l.take (k + 1)).any p = ((l.take k).any p || p l[k]) := by
  rw [List.take_succ_eq_append_getElem h, List.any_append]; simp
theorem rnk_get {s : Sch} {i : Nat} (h : i < s.rules.length) : rnk s i = s.rules[i].rank := by simp [rnk, List.getElem?_eq_getElem h]
/-- the rules that are heard, of the first i -/
def heardL (s : Sch) (kind : Int) (ch : List Int) (i : Nat) : List Int := ((List.range i).filter (mainOf s 0 kind ch)).map fun (i : Nat) => (i : Int)
theorem heardL_succ (s : Sch) (kind : Int) (ch : List Int) (i : Nat) : heardL s kind ch (i + 1) = heardL s kind ch i ++ if mainOf s 0 kind ch i then [(i : Int)] else [] := by
  unfold heardL
  rw [List.range_succ, List.filter_append, List.map_append]
  by_cases h : mainOf s 0 kind ch i = true <;> simp [h]
theorem heardL_len (s : Sch) (kind : Int) (ch : List Int) (i : Nat) : (heardL s kind ch i).length ≤ i := by
  unfold heardL; rw [List.length_map]; exact Nat.le_trans (List.length_filter_le _ _) (by simp)
theorem bitsOf_main {s : Sch} (V : Valid s) (kind : Int) (ch : List Int) : bitsOf (mainN s 0 kind ch) = heardL s kind ch s.rules.length := by
  unfold bitsOf upBits mainN heardL
  rw [filter_bset _ _ _ (by have := V.len; omega)]
theorem mainOf_eq (s : Sch) (kind : Int) (ch : List Int) (i : Nat) : mainOf s 0 kind ch i = (spF s kind ch i && (rnk s i == topR s (spF s kind ch) s.rules.length)) := rfl
/-- what has been said by the first i rules -/
def saidA (s : Sch) (kind : Int) (ch : List Int) (m i : Nat) : List Value := (List.range m).map fun a => Value.bool (saidTo s (mainN s 0 kind ch) i a)
theorem saidA_zero (s : Sch) (kind : Int) (ch : List Int) (m : Nat) : List.replicate m (Value.bool false) = saidA s kind ch m 0 := by
  apply List.ext_getElem (by simp [saidA])
  intro k h1 h2
  simp [saidA, saidTo]
theorem mainN_bit {s : Sch} (_V : Valid s) (kind : Int) (ch : List Int) {i : Nat} (h : i < s.rules.length) : (mainN s 0 kind ch).testBit i = mainOf s 0 kind ch i := by
  unfold mainN; rw [bset_testBit]; simp [h]
theorem saidA_no {s : Sch} (V : Valid s) {kind : Int} {ch : List Int} {m i : Nat} (h : i < s.rules.length) (hm : mainOf s 0 kind ch i = false) : saidA s kind ch m (i + 1) = saidA s kind ch m i := by
  unfold saidA
  refine List.map_congr_left fun a _ => ?_
  simp [saidTo, mainN_bit V kind ch h, hm]
theorem saidA_yes {s : Sch} (V : Valid s) {kind : Int} {ch : List Int} {m i y : Nat} (h : i < s.rules.length) (hm : mainOf s 0 kind ch i = true) (hy : sys s i = y) :
    (saidA s kind ch m i).toArray.setIfInBounds y (.bool true) = (saidA s kind ch m (i + 1)).toArray := by
  rw [List.setIfInBounds_toArray]
  congr 1
  apply List.ext_getElem (by simp [saidA])
  intro k h1 h2
  rw [List.getElem_set]
  by_cases hk : y = k
  · subst hk; simp [saidA, saidTo, mainN_bit V kind ch h, hm, hy]
  · have : ¬ k = y := fun e => hk e.symm
    simp [saidA, saidTo, mainN_bit V kind ch h, hm, hy, hk, this]
theorem saidA_get {s : Sch} {kind : Int} {ch : List Int} {m i a : Nat} (h : a < m) : (saidA s kind ch m i).toArray[a]? = some (.bool (saidTo s (mainN s 0 kind ch) i a)) := by simp [saidA, h]
/-- the answers below a -/
def answL (s : Sch) (kind : Int) (ch : List Int) (a : Nat) : List Int := ((List.range a).filter (ansOf s 0 kind ch)).map fun (i : Nat) => (i : Int)
theorem answL_succ (s : Sch) (kind : Int) (ch : List Int) (a : Nat) : answL s kind ch (a + 1) = answL s kind ch a ++ if ansOf s 0 kind ch a then [(a : Int)] else [] := by
  unfold answL
  rw [List.range_succ, List.filter_append, List.map_append]
  by_cases h : ansOf s 0 kind ch a = true <;> simp [h]
theorem answL_len (s : Sch) (kind : Int) (ch : List Int) (a : Nat) : (answL s kind ch a).length ≤ a := by
  unfold answL; rw [List.length_map]; exact Nat.le_trans (List.length_filter_le _ _) (by simp)
theorem filter_more {p : Nat → Bool} {n m : Nat} (h : n ≤ m) (hp : ∀ i, p i = true → i < n) : (List.range m).filter p = (List.range n).filter p := by
  obtain ⟨d, rfl⟩ : ∃ d, m = n + d := ⟨m - n, by omega⟩
  rw [List.range_add, List.filter_append]
  have : (List.filter p ((List.range d).map fun x => n + x)) = [] := by
    rw [List.filter_eq_nil_iff]
    intro a ha
    obtain ⟨b, _, rfl⟩ := List.mem_map.1 ha
    intro h; have := hp _ h; omega
  rw [this, List.append_nil]
theorem answL_eq {s : Sch} (V : Valid s) (kind : Int) (ch : List Int) : answL s kind ch s.answers.toNat = ((List.range 20).filter (ansOf s 0 kind ch)).map fun (i : Nat) => (i : Int) := by
  unfold answL
  rw [filter_more (p := ansOf s 0 kind ch) (n := s.answers.toNat) (m := 20) (by have := V.answers; omega) (fun i h => saidTo_lt V (L := mainN s 0 kind ch) s.rules.length h)]
/-- a reading is returned -/
def RetR (x : Int × List Int × List Int) (w : World) (e : Ending) (w' : World) : Prop :=
  ∃ A c A2 c2, e = .returned (.agg #[.int .i64 x.1, .slice A x.2.1.length c, .slice A2 x.2.2.length c2]) ∧ Sl intCell 1 w' w'.heap.size A x.2.1 ∧ Sl intCell 1 w' w'.heap.size A2 x.2.2 ∧ Below w.heap.size w w'
def readP (s : Sch) (kind : Int) (ch : List Int) : Int × List Int × List Int := (kindOf ((List.range 20).filter (ansOf s 0 kind ch)), bitsOf (ansN s 0 kind ch), bitsOf (mainN s 0 kind ch))
theorem infoBool : (Try.prog.info? 4).map (fun i => (i.zero, i.size, i.bytes)) = some (some (.bool false), 1, 1) := by kernel_rfl
theorem uBools : Try.prog.underlying 97 = some (.slice 4) := by kernel_rfl
end Go.Proofs.Ytidlmbajpbbilaa

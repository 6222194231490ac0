/- The reference: Chart, Is, Number. -/
import Derived.Test.YtidlmbajpbbilaaRfC
namespace Go.Proofs.Ytidlmbajpbbilaa
open Go.RowKit

/-- a new block that holds a list is a row of the call's own -/
theorem ownsRow_lit {w : World} {base : Nat} {e : TypeId} (cs : Array Value) (hb : base ≤ w.heap.size) (hm : cs.size ≤ maxLen) :
    (w.alloc (.cells cs e)).ownsRow base e 1 (.slice (some ⟨w.heap.size, 0, none⟩) cs.size cs.size) cs.size cs.toList :=
  ⟨by simp, .inr ⟨w.heap.size, _, cs, rfl, hb, heap_alloc_new w _, Nat.le_refl _, hm, by simp, List.take_of_length_le (by simp)⟩⟩
theorem own_cells {w : World} {base n : Nat} {e : TypeId} {A : Option Addr} {c : Nat} {xs : List Value} (h : w.ownsRow base e 1 (.slice A n c) n xs) : ∀ g, A = some g → (g.off = 0 ∧ g.spot = none) ∧ ∀ j u, xs[j]? = some u → w.cell? (g.add j) = some u := fun g hg => by
  rcases h.2 with ⟨hv, _⟩ | ⟨b, cap, cur, hv, hrest⟩
  · rw [hg] at hv; cases hv
  · have hA : A = some ⟨b, 0, none⟩ := by injection hv
    subst hA
    cases hg
    exact ⟨⟨rfl, rfl⟩, fun j u hu => h.cells (g := b) rfl j u hu⟩
set_option maxRecDepth 100000 in
set_option maxHeartbeats 2000000 in
theorem rchart_any (s : Sch) (R : Value) (n : Int) (hs : Small s) (hn : 0 ≤ n) (hn' : n ≤ 4096) (w : World) : Calls Try.prog 41 #[scv s R, .int .i64 n] w (RetOwn 3 intCell 1 (chartL s n) w) := by
  obtain ⟨i0, hi, iz0, iz1, iz2⟩ := info_parts infoInt
  obtain ⟨h1, h2, h3, h4⟩ := hs
  obtain ⟨p, hp⟩ := Int.eq_ofNat_of_zero_le (a := s.places) (by omega)
  have HP := Lib.hid hp
  have hp6 : p ≤ 6 := by omega
  clear hp
  go_enter Try.func41, Try.ntmps41
  go_wp2
  refine wp_world (fun W => Below w.heap.size w W ∧ w.heap.size + 1 < W.heap.size ∧ Blk W w.heap.size #[.int .i64 s.places, .int .i64 s.signs, .int .i64 s.kinds, .int .i64 s.answers, R] 24 ∧ Hid (W.ownsRow w.heap.size 3 1 (.slice (some ⟨w.heap.size + 1, 0, none⟩) 0 0) 0 [])) ?_ ?_
  · refine ⟨by (repeat (first | exact Below.refl _ _ | assumption | (refine Below.alloc ?_ (by first | omega | (simp; omega) | (simp; done)) _) | (refine Below.setCell ?_ (by first | omega | (simp; omega) | (simp; done)) _) | (refine Below.drew ?_) | (refine belowN ?_ _) | (refine Below.trans ?_ (Below.mono ‹Below _ _ _› (by first | omega | (simp; omega) | (simp; done)))))), by simp, (Blk.at_ rfl).alloc _, ?_⟩
    have := ownsRow_lit (w := w.alloc (.cells #[.int .i64 s.places, .int .i64 s.signs, .int .i64 s.kinds, .int .i64 s.answers, R] 24)) (base := w.heap.size) (e := 3) #[] (by simp) (by simp)
    rw [World.size_alloc] at this
    exact this
  rintro w0 ⟨hbw, hz0, g0, hown0⟩
  have hge : Hid (∃ q : Addr, (some ⟨w.heap.size + 1, 0, none⟩ : Option Addr) = some q) := ⟨_, rfl⟩
  go_loopw [1, 5, 6] (fun v o i wr => ∃ j : Nat, j ≤ p ∧ i = .int .i64 j ∧ v = .int .i64 (divN s.signs j n) ∧ Below w0.heap.size w0 wr ∧ ∃ (q : Addr) (c : Nat), o = .slice (some q) j c ∧ Hid (wr.ownsRow w.heap.size 3 1 (.slice (some q) j c) j ((digits s.signs j n).map (Value.int .i64)))) (fun _ _ i _ => p - (intOf i).toNat)
  case atStart => exact ⟨0, by omega, rfl, rfl, Below.refl _ _, _, 0, rfl, hown0⟩
  case round =>
    obtain ⟨j, hj, rfl, rfl, hb, q, c, rfl, hown⟩ := hrel
    have hsz := hb.size
    have gc := (g0.below hb (by omega)).cell
    have s0 := gc 0; have s1 := gc 1
    simp at s0 s1
    rw [HP.out] at s0
    clear gc
    obtain ⟨hd0, hd1⟩ := divN_bd h3 hn j
    have HBW : Hid (Below w.heap.size w wr) := (hbw.trans (hb.mono (by omega)) : Below w.heap.size w wr)
    by_cases hlt : j < p
    · have hoc := (own_cells hown.out q rfl).2
      have HD : Hid (divN s.signs (j + 1) n = divN s.signs j n / s.signs) := (rfl : divN s.signs (j + 1) n = divN s.signs j n / s.signs)
      have HDC := Lib.hid (digits_cons s.signs j n)
      have hdl : ((digits s.signs j n).map (Value.int .i64)).length = j * 1 := by rw [List.length_map, digits_len]; omega
      obtain ⟨d, hd⟩ : ∃ d, d = divN s.signs j n := ⟨_, rfl⟩
      rw [← hd] at hd0 hd1 HD HDC ⊢
      have hcell : ∀ (jj : Nat) (u : Value), ((digits s.signs j n).map (Value.int .i64))[jj]? = some u → (wr.alloc (.cells #[.int .i64 (d % s.signs)] 3)).cell? (q.add jj) = some u := fun jj u hu => by
        have hc := hoc jj u hu
        rw [((Below.refl wr.heap.size wr).alloc (Nat.le_refl _) _).cell (World.block_lt_of_cell? wr _ hc)]
        exact hc
      have HCELL := Lib.hid hcell
      have HDL := Lib.hid hdl
      have hol := ownsRow_lit (w := wr) (base := wr.heap.size) (e := 3) #[.int .i64 (d % s.signs)] (Nat.le_refl _) (by simp [maxLen])
      have HOL := Lib.hid hol
      clear hcell hdl hoc hd hown hol
      go_wp2_with (at_builtin; refine wpList_append_own _ rfl _ _ 28 rfl wr.heap.size 3 i0 (.int .i64 0) 1 8 uInts hi iz0 iz1 iz2 rfl (by decide) _ _ _ rfl HOL.out q j c _ rfl HDL.out HCELL.out (by simp [Value.oneCell']) (by simp [maxLen]; omega) (by simp; omega) (by simp) ?_; intro v' w1 hown1 hgrow hnil; have hb1 : Below wr.heap.size wr w1 := ((Below.refl _ _).alloc (Nat.le_refl _) _).grown hgrow (by simp) (fun g hg => by cases hg; exact Nat.le_refl _); have s1' := ((g0.below hb (by omega)).below hb1 (by omega)).cell 1; simp at s1')
      have hz1 := hb1.size
      obtain ⟨q', c', rfl⟩ : ∃ q' c', v' = .slice (some q') (j + 1) c' := by
        rcases hown1.2 with ⟨hv, _⟩ | ⟨g, cap, cur, hv, _⟩
        · have := (hnil.1 hv).1; cases this
        · exact ⟨_, cap, by rw [hv]; congr 1; simp; omega⟩
      have HO1 : Hid (w1.ownsRow w.heap.size 3 1 (.slice (some q') (j + 1) c') (j + 1) ((digits s.signs (j + 1) n).map (Value.int .i64))) := by
        rw [HDC.out]
        have h2 := hown1
        rw [show (#[Value.int IntKind.i64 (d % s.signs)].size + j) = j + 1 by simp; omega] at h2
        refine ⟨h2.1, ?_⟩
        rcases h2.2 with h3 | ⟨g, cap, cur, hv, hbg, hrest⟩
        · exact .inl h3
        · exact .inr ⟨g, cap, cur, hv, by omega, hrest⟩
      clear hown1 hgrow hnil
      go_wp2
      go_roundw
      case rel => exact ⟨j + 1, by omega, by go_num, by rw [HD.out], hb.trans (hb1.mono hsz), q', c', rfl, HO1⟩
      case measure => simp [intOf]; omega
    · obtain rfl : j = p := by omega
      go_wp2
      go_ret
      refine ⟨_, rfl, ?_, HBW.out⟩
      have := hown.out
      rw [chartL, digits_len, HP.out, flat_one]
      simpa using this
end Go.Proofs.Ytidlmbajpbbilaa

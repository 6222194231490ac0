/- The rows' frame: numbers of sixteen bits. -/
import Derived.Test.YtfbnllmmoaialaaB20Fa
import Derived.Test.YtfbnllmmoaialaaB00Mem
import Derived.Test.YtfbnllmmoaialaaAm
import Derived.Laws.AppendOwnNone
import Derived.OwnWalk
import Derived.Maps.AppendAt
import Derived.Test.YtfbnllmmoaialaaBe
import Derived.Deep.RegionHeld3
import Derived.Deep.DeepCutAuto
namespace Go.Proofs.Ytfbnllmmoaialaa
open Go.RowKit Go.ChangeShapes Go.WideShapes Go.ChangeAt Go.Deep
section
variable {H : Type} {enc : TypeId × Value → H}
theorem u16_wf {n : Int} (h : (Lit.int .u16 n).wf = true) : 0 ≤ n ∧ n < 65536 := by
  simp only [Lit.wf, Bool.and_eq_true, decide_eq_true_eq] at h
  have h1 : IntKind.u16.min = 0 := by decide
  have h2 : IntKind.u16.max = 65535 := by decide
  rw [h1, h2] at h; omega
set_option maxRecDepth 100000 in
theorem arg_u16 {W : World} {v : Value} {d : DataW H} {p : List MemPlace} {b0 : Nat} (hv : Value.okWide Try.prog W .any b0 103 v) (h : DataW.Trod enc Try.prog W 0 (fun _ => true) true 103 v d p) : ∃ a : Int, v = .int .u16 a ∧ 0 ≤ a ∧ a < 65536 := by
  have hu : Try.prog.underlying 103 = some (.int .u16) := by kernel_rfl
  simp only [Value.okWide, hu, Cell.okWide] at hv
  obtain ⟨fuel, hf⟩ := h
  obtain ⟨a, ha, _, hw⟩ := DataW.trod_int hu hf
  refine ⟨a, ?_, u16_wf hw⟩
  cases v <;> simp_all [Value.cells, Cell.ok]
end
end Go.Proofs.Ytfbnllmmoaialaa
namespace Go.Proofs.Ytfbnllmmoaialaa
open Go.RowKit Go.ChangeShapes Go.WideShapes Go.ChangeAt Go.Deep

theorem u8_wf {n : Int} (h : (Lit.int .u8 n).wf = true) : 0 ≤ n ∧ n < 256 := by
  simp only [Lit.wf, Bool.and_eq_true, decide_eq_true_eq] at h
  have h1 : IntKind.u8.min = 0 := by decide
  have h2 : IntKind.u8.max = 255 := by decide
  rw [h1, h2] at h; omega
section
variable {H : Type} {enc : TypeId × Value → H} {w : World} {base : Nat} {spare : Nat → Bool} {held : Bool}
theorem open_cyc {n : Nat} {cs : List Value} {y : DataW H × List MemPlace} (h : DataW.trod enc Try.prog w base spare held n 55 cs = some y) (hl : cs.length = 2) : ∃ u : Cyc, True ∧ u.cells = cs := by
  obtain ⟨xs, h1, h2⟩ := open_nint Try.underlying55 (by kernel_rfl) (by kernel_rfl) h hl
  match xs, h1 with
  | [a, b], _ => exact ⟨⟨a, b⟩, trivial, h2.symm⟩
theorem uCyclesF : Try.prog.underlying 22 = some (.slice 55) := by kernel_rfl
theorem open_cycs {n : Nat} {cs : List Value} {y : DataW H × List MemPlace} (h : DataW.trod enc Try.prog w base spare held n 22 cs = some y) : ∃ A c l, cs = [.slice A l.length c] ∧ Sl Cyc.cells 2 w w.heap.size A l ∧ (A = none → c = 0) := by
  obtain ⟨A, c, l, h1, h2, h3, _⟩ := open_sl Cyc.cells 2 (by omega) (fun _ => rfl) (fun _ => True) uCyclesF (by kernel_rfl) (fun n cs' y hy hl => open_cyc hy hl) h
  exact ⟨A, c, l, h1, h2, h3⟩
set_option maxRecDepth 100000 in
theorem arg_cycles {W : World} {v : Value} {d : DataW H} {p : List MemPlace} {b0 : Nat} (hv : Value.okWide Try.prog W .any b0 22 v) (h : DataW.Trod enc Try.prog W 0 (fun _ => true) true 22 v d p) : ∃ A c l, v = .slice A l.length c ∧ Sl Cyc.cells 2 W W.heap.size A l ∧ (A = none → c = 0) := by
  obtain ⟨fuel, hf⟩ := h
  obtain ⟨A, c, l, h1, h2, h3⟩ := open_cycs hf
  refine ⟨A, c, l, ?_, h2, h3⟩
  simp only [Value.okWide, uCyclesF, Cell.okWide] at hv
  cases v <;> simp_all [Value.cells, Cell.ok]
set_option maxRecDepth 100000 in
theorem arg_dial {W : World} {v : Value} {d : DataW H} {p : List MemPlace} {b0 : Nat} (hv : Value.okWide Try.prog W .any b0 67 v) (h : DataW.Trod enc Try.prog W 0 (fun _ => true) true 67 v d p) :
    ∃ (A : Option Addr) (c : Nat) (l : List Int) (f m : Int), v = .agg #[.slice A l.length c, .int .i64 f, .int .u8 m] ∧ Sl intCell 1 W W.heap.size A l ∧ (A = none → c = 0) ∧ 0 ≤ m ∧ m < 256 := by
  obtain ⟨cs, rfl, hsz⟩ := okWide_struct Try.underlying67 hv
  obtain ⟨fuel, hf0⟩ := h
  have hC : Try.prog.cellsOf 67 = 3 := by kernel_rfl
  have hl : (Value.agg cs).cells.toList.length = 3 := by simp [Value.cells]; omega
  obtain ⟨m, hf⟩ := struct_cells Try.underlying67 (by kernel_rfl) hl hf0
  obtain ⟨v0, z0, c0, t0⟩ := hf 0 _ rfl
  obtain ⟨v1, z1, c1, t1⟩ := hf 1 _ rfl
  obtain ⟨v2, z2, c2, t2⟩ := hf 2 _ rfl
  obtain ⟨A0, d0, l0, e0, s0, n0⟩ := open_ints uInts (by kernel_rfl) (by kernel_rfl) t0
  obtain ⟨a1, e1, _, _⟩ := DataW.trod_int (show Try.prog.underlying _ = some (.int .i64) by kernel_rfl) t1
  obtain ⟨a2, e2, _, w2⟩ := DataW.trod_int (show Try.prog.underlying _ = some (.int .u8) by kernel_rfl) t2
  simp only [List.cons.injEq, and_true] at e0 e1 e2
  subst e0 e1 e2
  obtain ⟨q1, q2⟩ := u8_wf w2
  refine ⟨A0, d0, l0, a1, a2, ?_, s0, n0, q1, q2⟩
  simp only [Value.cells] at hl c0 c1 c2
  obtain ⟨l⟩ := cs
  match l, hl with
  | [x0, x1, x2], _ =>
    simp at c0 c1 c2
    simp [c0, c1, c2]
end
end Go.Proofs.Ytfbnllmmoaialaa
namespace Go.Proofs.Ytfbnllmmoaialaa
open Go.RowKit

theorem infoCyc : (Try.prog.info? 55).map (fun i => (i.zero, i.size, i.bytes)) = some (some (.agg #[.int .i64 0, .int .i64 0]), 2, 16) := by kernel_rfl
theorem uCycles : Try.prog.underlying 22 = some (.slice 55) := by kernel_rfl
set_option maxRecDepth 100000 in
theorem ints0_any (A : Option Addr) (c : Nat) (l : List Int) (w : World) (hl : l.length ≤ 1000000) (hn : A = none → c = 0) (hok : ∀ u ∈ flat intCell l, u.oneCell' = true) (hr : Sl intCell 1 w w.heap.size A l) :
    Calls Try.prog 31 #[.slice A l.length c] w (RetOwn 3 intCell 1 l w) := by
  obtain ⟨i0, hi, iz0, iz1, iz2⟩ := info_parts infoInt
  have hfl : (flat intCell l).length = l.length * 1 := hr.1
  cases A with
  | none =>
    obtain rfl : c = 0 := hn rfl
    have h0 : l.length = 0 := by
      rcases Nat.eq_zero_or_pos l.length with h | h
      · exact h
      · obtain ⟨b, o, e, _⟩ := hr.2 h; cases e
    have hl0 : l = [] := List.eq_nil_of_length_eq_zero h0
    subst hl0
    have hown := World.ownsRow_made (e := 3) (size := 1) w #[] 0 (base := w.heap.size) (Nat.le_refl _) (by simp) (by simp)
    have HO := Lib.hid hown
    clear hown hr hfl
    go_enter Try.func31, Try.ntmps31
    go_wp2_with (at_builtin; refine wpList_append_own_none rfl _ _ 38 rfl w.heap.size 3 i0 1 uInts hi _ _ _ rfl HO.out rfl ?_)
    go_ret
    exact ⟨_, rfl, by simpa [flat] using HO.out, by (repeat (first | exact Below.refl _ _ | assumption | (refine Below.alloc ?_ (by first | omega | (simp; omega) | (simp; done)) _) | (refine Below.setCell ?_ (by first | omega | (simp; omega) | (simp; done)) _) | (refine Below.drew ?_) | (refine belowN ?_ _) | (refine Below.trans ?_ (Below.mono ‹Below _ _ _› (by first | omega | (simp; omega) | (simp; done))))))⟩
  | some ad =>
    have hcell : ∀ (j : Nat) (u : Value), (flat intCell l)[j]? = some u → (w.alloc (.cells #[] 3)).cell? (ad.add j) = some u := fun j u hu => by
      have hpos : 0 < l.length := by
        rcases Nat.eq_zero_or_pos l.length with h | h
        · have : l = [] := List.eq_nil_of_length_eq_zero h
          subst this; simp [flat] at hu
        · exact h
      obtain ⟨b, o, e, hb, hc⟩ := hr.2 hpos
      cases e
      have h1 := hc j u hu
      rw [Go.WideShapes.add_plain, ((Below.refl w.heap.size w).alloc (Nat.le_refl _) _).cell (p := ⟨b, o + j, none⟩) hb]
      exact h1
    have hown := World.ownsRow_made (e := 3) (size := 1) w #[] 0 (base := w.heap.size) (Nat.le_refl _) (by simp) (by simp)
    have HO := Lib.hid hown; have HC := Lib.hid hcell; have HFL := Lib.hid hfl; have HOK := Lib.hid hok
    clear hown hcell hfl hr hok hn
    go_enter Try.func31, Try.ntmps31
    go_wp2_with (at_builtin; refine wpList_append_own _ rfl _ _ 38 rfl w.heap.size 3 i0 (.int .i64 0) 1 8 uInts hi iz0 iz1 iz2 rfl (by decide) _ _ _ rfl HO.out ad l.length c (flat intCell l) rfl HFL.out HC.out HOK.out (by unfold maxLen; omega) (by omega) (by simp) ?_; intro v' w1 hown1 hgrow _)
    have hb1 : Below w.heap.size w w1 := ((Below.refl _ _).alloc (Nat.le_refl _) _).grown hgrow (by simp) (fun g hg => by cases hg; exact Nat.le_refl _)
    have HO1 := Lib.hid hown1
    clear hown1 hgrow
    go_wp2
    go_ret
    exact ⟨_, rfl, by simpa using HO1.out, hb1⟩
set_option maxRecDepth 100000 in
theorem cycles0_any (A : Option Addr) (c : Nat) (l : List Cyc) (w : World) (hl : l.length ≤ 1000000) (hn : A = none → c = 0) (hok : ∀ u ∈ flat Cyc.cells l, u.oneCell' = true) (hr : Sl Cyc.cells 2 w w.heap.size A l) :
    Calls Try.prog 30 #[.slice A l.length c] w (RetOwn 55 Cyc.cells 2 l w) := by
  obtain ⟨i0, hi, iz0, iz1, iz2⟩ := info_parts infoCyc
  have hfl : (flat Cyc.cells l).length = l.length * 2 := hr.1
  cases A with
  | none =>
    obtain rfl : c = 0 := hn rfl
    have h0 : l.length = 0 := by
      rcases Nat.eq_zero_or_pos l.length with h | h
      · exact h
      · obtain ⟨b, o, e, _⟩ := hr.2 h; cases e
    have hl0 : l = [] := List.eq_nil_of_length_eq_zero h0
    subst hl0
    have hown := World.ownsRow_made (e := 55) (size := 2) w #[] 0 (base := w.heap.size) (Nat.le_refl _) (by simp) (by simp)
    have HO := Lib.hid hown
    clear hown hr hfl
    go_enter Try.func30, Try.ntmps30
    go_wp2_with (at_builtin; refine wpList_append_own_none rfl _ _ 22 rfl w.heap.size 55 i0 2 uCycles hi _ _ _ rfl HO.out rfl ?_)
    go_ret
    exact ⟨_, rfl, by simpa [flat] using HO.out, by (repeat (first | exact Below.refl _ _ | assumption | (refine Below.alloc ?_ (by first | omega | (simp; omega) | (simp; done)) _) | (refine Below.setCell ?_ (by first | omega | (simp; omega) | (simp; done)) _) | (refine Below.drew ?_) | (refine belowN ?_ _) | (refine Below.trans ?_ (Below.mono ‹Below _ _ _› (by first | omega | (simp; omega) | (simp; done))))))⟩
  | some ad =>
    have hcell : ∀ (j : Nat) (u : Value), (flat Cyc.cells l)[j]? = some u → (w.alloc (.cells #[] 55)).cell? (ad.add j) = some u := fun j u hu => by
      have hpos : 0 < l.length := by
        rcases Nat.eq_zero_or_pos l.length with h | h
        · have : l = [] := List.eq_nil_of_length_eq_zero h
          subst this; simp [flat] at hu
        · exact h
      obtain ⟨b, o, e, hb, hc⟩ := hr.2 hpos
      cases e
      have h1 := hc j u hu
      rw [Go.WideShapes.add_plain, ((Below.refl w.heap.size w).alloc (Nat.le_refl _) _).cell (p := ⟨b, o + j, none⟩) hb]
      exact h1
    have hown := World.ownsRow_made (e := 55) (size := 2) w #[] 0 (base := w.heap.size) (Nat.le_refl _) (by simp) (by simp)
    have HO := Lib.hid hown; have HC := Lib.hid hcell; have HFL := Lib.hid hfl; have HOK := Lib.hid hok
    clear hown hcell hfl hr hok hn
    go_enter Try.func30, Try.ntmps30
    go_wp2_with (at_builtin; refine wpList_append_own _ rfl _ _ 22 rfl w.heap.size 55 i0 (.agg #[.int .i64 0, .int .i64 0]) 2 16 uCycles hi iz0 iz1 iz2 rfl (by decide) _ _ _ rfl HO.out ad l.length c (flat Cyc.cells l) rfl HFL.out HC.out HOK.out (by unfold maxLen; omega) (by omega) (by simp) ?_; intro v' w1 hown1 hgrow _)
    have hb1 : Below w.heap.size w w1 := ((Below.refl _ _).alloc (Nat.le_refl _) _).grown hgrow (by simp) (fun g hg => by cases hg; exact Nat.le_refl _)
    have HO1 := Lib.hid hown1
    clear hown1 hgrow
    go_wp2
    go_ret
    exact ⟨_, rfl, by simpa using HO1.out, hb1⟩
theorem sl_of_ownN {α : Type} {f : α → List Value} {size : Nat} {e : TypeId} {w : World} {base : Nat} {v : Value} {l : List α} (h : w.ownsRow base e size v l.length (flat f l)) : ∃ A c, v = .slice A l.length c ∧ Sl f size w w.heap.size A l ∧ (A = none → c = 0) := by
  rcases h.2 with ⟨rfl, h0⟩ | ⟨g, cap, cur, rfl, hb, hg, hn, hc, hs, ht⟩
  · exact ⟨none, 0, by rw [h0], ⟨h.1, fun hn => by omega⟩, fun _ => rfl⟩
  · obtain ⟨A, c, h1, h2⟩ := Sl.of_own h
    exact ⟨A, c, h1, h2, fun e => by subst e; cases h1⟩
theorem ints_any (A : Option Addr) (c : Nat) (l : List Int) (w : World) (hl : l.length ≤ 1000000) (hn : A = none → c = 0) (hr : Sl intCell 1 w w.heap.size A l) :
    Calls Try.prog 31 #[.slice A l.length c] w fun e w' => ∃ B k, e = .returned (.slice B l.length k) ∧ Sl intCell 1 w' w'.heap.size B l ∧ (B = none → k = 0) ∧ Below w.heap.size w w' :=
  (ints0_any A c l w hl hn (by rw [flat_int]; intro u hu; obtain ⟨x, _, rfl⟩ := List.mem_map.1 hu; rfl) hr).mono fun _ _ ⟨v, h1, h2, h3⟩ => by
    obtain ⟨A', c', rfl, h4, h5⟩ := sl_of_ownN h2
    exact ⟨A', c', h1, h4, h5, h3⟩
theorem cycles_any (A : Option Addr) (c : Nat) (l : List Cyc) (w : World) (hl : l.length ≤ 1000000) (hn : A = none → c = 0) (hr : Sl Cyc.cells 2 w w.heap.size A l) :
    Calls Try.prog 30 #[.slice A l.length c] w fun e w' => ∃ B k, e = .returned (.slice B l.length k) ∧ Sl Cyc.cells 2 w' w'.heap.size B l ∧ (B = none → k = 0) ∧ Below w.heap.size w w' :=
  (cycles0_any A c l w hl hn (by intro u hu; obtain ⟨x, _, hx⟩ := List.mem_flatMap.1 hu; simp [Cyc.cells] at hx; rcases hx with rfl | rfl <;> rfl) hr).mono fun _ _ ⟨v, h1, h2, h3⟩ => by
    obtain ⟨A', c', rfl, h4, h5⟩ := sl_of_ownN h2
    exact ⟨A', c', h1, h4, h5, h3⟩
end Go.Proofs.Ytfbnllmmoaialaa
namespace Go.Proofs.Ytfbnllmmoaialaa

/-- a day stands at all these positions -/
def Stands (l : List (Cyc × Int)) (x : Int) : Prop := ∀ q ∈ l, posI q.1 x = q.2
theorem posI_eq {c : Cyc} (hc : cycB c = true) {x y : Int} : posI c x = posI c y ↔ c.l ∣ x - y := by
  unfold posI
  rw [Int.emod_eq_emod_iff_emod_sub_eq_zero, Int.dvd_iff_emod_eq_zero, show x - c.s + c.l - (y - c.s + c.l) = x - y by omega]
/-- seek finds the least hit -/
theorem seek_some {c : Cyc} {p per : Int} : ∀ (n : Nat) (d e : Int), seek c p per n d = some e → posI c e = p ∧ ∃ k : Nat, k < n ∧ e = d + per * k ∧ ∀ j : Nat, j < k → posI c (d + per * j) ≠ p
  | 0, _, _, h => by cases h
  | n + 1, d, e, h => by
    unfold seek at h
    split at h
    · rename_i hp
      cases h
      exact ⟨by simpa using hp, 0, by omega, by simp, fun j hj => by omega⟩
    · rename_i hp
      split at h
      · cases h
      · obtain ⟨h1, k, hk, he, hn⟩ := seek_some n (d + per) e h
        refine ⟨h1, k + 1, by omega, by rw [he, Int.natCast_add, Int.mul_add]; omega, fun j hj => ?_⟩
        cases j with
        | zero => simpa using hp
        | succ j =>
          have := hn j (by omega)
          rwa [show d + per + per * (j : Int) = d + per * ((j + 1 : Nat) : Int) by rw [Int.natCast_add, Int.mul_add]; omega] at this
theorem seek_none {c : Cyc} {p per : Int} (h1 : 1 ≤ per) : ∀ (n : Nat) (d : Int), seek c p per n d = none → ∀ k : Nat, k < n → d + per * k ≤ 1000000 → posI c (d + per * k) ≠ p
  | 0, _, _, k, hk, _ => by omega
  | n + 1, d, h, k, hk, hb => by
    unfold seek at h
    split at h
    · cases h
    · rename_i hp
      cases k with
      | zero => simpa using hp
      | succ k =>
        have e : d + per * ((k + 1 : Nat) : Int) = d + per + per * (k : Int) := by rw [Int.natCast_add, Int.mul_add]; omega
        rw [e] at hb ⊢
        have hpk : 0 ≤ per * (k : Int) := Int.mul_nonneg (by omega) (by omega)
        rw [if_neg (by omega)] at h
        exact seek_none h1 n (d + per) h k (by omega) hb
/-- what holds of the days from d on that stand at l: d, d + per, .. -/
def ProgD (l : List (Cyc × Int)) (d per : Int) : Prop := ∀ x, d ≤ x → (Stands l x ↔ ∃ k : Nat, x = d + per * k)
theorem dvd_step {L P : Nat} (hL : 0 < L) (j : Nat) : L ∣ P * j ↔ L / Nat.gcd L P ∣ j := by
  have hg : 0 < Nat.gcd L P := Nat.gcd_pos_of_pos_left _ hL
  have e1 : L / Nat.gcd L P * Nat.gcd L P = L := Nat.div_mul_cancel (Nat.gcd_dvd_left L P)
  have e2 : P / Nat.gcd L P * Nat.gcd L P = P := Nat.div_mul_cancel (Nat.gcd_dvd_right L P)
  have hco := Nat.coprime_div_gcd_div_gcd (m := L) (n := P) hg
  constructor
  · intro h
    have h2 : L / Nat.gcd L P * Nat.gcd L P ∣ P / Nat.gcd L P * j * Nat.gcd L P := by
      rw [e1, Nat.mul_right_comm, e2]; exact h
    exact hco.dvd_of_dvd_mul_left (Nat.dvd_of_mul_dvd_mul_right hg h2)
  · intro h
    have h2 : L / Nat.gcd L P * Nat.gcd L P ∣ j * Nat.gcd L P := Nat.mul_dvd_mul_right h _
    rw [e1] at h2
    refine Nat.dvd_trans h2 ?_
    rw [Nat.mul_comm P j]
    exact Nat.mul_dvd_mul_left j (Nat.gcd_dvd_right L P)
theorem stands_snoc {l : List (Cyc × Int)} {q : Cyc × Int} {x : Int} : Stands (l ++ [q]) x ↔ Stands l x ∧ posI q.1 x = q.2 := by
  unfold Stands
  simp only [List.mem_append, List.mem_singleton]
  exact ⟨fun h => ⟨fun r hr => h r (.inl hr), h q (.inr rfl)⟩, fun ⟨h1, h2⟩ r hr => hr.elim (h1 r) (fun e => e ▸ h2)⟩
theorem prog_step {l : List (Cyc × Int)} {c : Cyc} {p d per e : Int} (hc : cycB c = true) (hper : 1 ≤ per) (hP : ProgD l d per) (hs : seek c p per c.l.toNat d = some e) : ProgD (l ++ [(c, p)]) e (per * (c.l / gI c.l per)) ∧ d ≤ e ∧ Stands (l ++ [(c, p)]) e ∧ ∀ x, d ≤ x → x < e → ¬ Stands (l ++ [(c, p)]) x := by
  obtain ⟨hp, k0, hk0, he, hn⟩ := seek_some _ _ _ hs
  have hpk : 0 ≤ per * (k0 : Int) := Int.mul_nonneg (by omega) (by omega)
  have hde : d ≤ e := by omega
  obtain ⟨⟨c1, c2⟩, -⟩ := cycB_iff.1 hc
  refine ⟨fun x hx => ?_, hde, stands_snoc.2 ⟨(hP e hde).2 ⟨k0, he⟩, hp⟩, fun x h1 h2 h => ?_⟩
  · rw [stands_snoc, hP x (by omega)]
    obtain ⟨L, hL⟩ := Int.eq_ofNat_of_zero_le (show 0 ≤ c.l by omega)
    obtain ⟨P, hPn⟩ := Int.eq_ofNat_of_zero_le (show 0 ≤ per by omega)
    have hq : c.l / gI c.l per = ((L / Nat.gcd L P : Nat) : Int) := by
      unfold gI
      rw [hL, hPn, Int.toNat_natCast, Int.toNat_natCast]
      rfl
    rw [hq]
    have hd (j : Nat) : posI c (e + per * j) = p ↔ L / Nat.gcd L P ∣ j := by
      rw [← hp, posI_eq hc, show e + per * (j : Int) - e = per * (j : Int) by omega, hL, hPn, ← Int.natCast_mul, Int.natCast_dvd_natCast, dvd_step (by omega)]
    constructor
    · rintro ⟨⟨k, hk⟩, hpx⟩
      have hkk : k0 ≤ k := by
        have : per * (k0 : Int) ≤ per * (k : Int) := by omega
        have := Int.le_of_mul_le_mul_left this (by omega)
        omega
      have hx2 : x = e + per * ((k - k0 : Nat) : Int) := by
        rw [hk, he, Int.ofNat_sub hkk, Int.mul_sub]; omega
      have hpx : posI c x = p := hpx
      rw [hx2, hd] at hpx
      obtain ⟨t, ht⟩ := hpx
      exact ⟨t, by rw [hx2, ht, Int.natCast_mul, Int.mul_assoc]⟩
    · rintro ⟨t, ht⟩
      have hx2 : x = e + per * ((L / Nat.gcd L P * t : Nat) : Int) := by rw [ht, Int.natCast_mul, Int.mul_assoc]
      refine ⟨⟨k0 + L / Nat.gcd L P * t, ?_⟩, ?_⟩
      · rw [hx2, he, Int.natCast_add, Int.mul_add]; omega
      · show posI c x = p
        rw [hx2, hd]
        exact Nat.dvd_mul_right _ _
  · obtain ⟨h3, h4⟩ := stands_snoc.1 h
    obtain ⟨k, rfl⟩ := (hP x h1).1 h3
    refine hn k ?_ h4
    rw [he] at h2
    have : per * (k : Int) < per * (k0 : Int) := by omega
    have := Int.lt_of_mul_lt_mul_left this (by omega)
    omega
theorem prog_none {l : List (Cyc × Int)} {c : Cyc} {p d per : Int} (hc : cycB c = true) (hper : 1 ≤ per) (hP : ProgD l d per) (hs : seek c p per c.l.toNat d = none) : ∀ x, d ≤ x → x ≤ 1000000 → ¬ Stands (l ++ [(c, p)]) x := by
  intro x h1 h2 h
  obtain ⟨h3, h4⟩ := stands_snoc.1 h
  obtain ⟨k, rfl⟩ := (hP x h1).1 h3
  obtain ⟨⟨c1, c2⟩, -⟩ := cycB_iff.1 hc
  obtain ⟨L, hL⟩ := Int.eq_ofNat_of_zero_le (show 0 ≤ c.l by omega)
  have hL0 : 0 < L := by omega
  have hle : k % L ≤ k := Nat.mod_le _ _
  have hlt : k % L < L := Nat.mod_lt _ hL0
  have hm : per * ((k % L : Nat) : Int) ≤ per * (k : Int) := Int.mul_le_mul_of_nonneg_left (by omega) (by omega)
  refine seek_none hper _ _ hs (k % L) (by omega) (by omega) ?_
  rw [← show posI c (d + per * (k : Int)) = p from h4, posI_eq hc, hL]
  refine ⟨-(per * ((k / L : Nat) : Int)), ?_⟩
  have hk : (k : Int) = (L : Int) * ((k / L : Nat) : Int) + ((k % L : Nat) : Int) := by
    have := Nat.div_add_mod k L
    rw [← Int.natCast_mul, ← Int.natCast_add, this]
  conv => lhs; rw [hk]
  rw [Int.mul_neg, Int.mul_add, ← Int.mul_assoc per, Int.mul_comm per (L : Int), Int.mul_assoc]
  omega
theorem per_pos {c : Cyc} (hc : cycB c = true) {per : Int} (h : 1 ≤ per) : 1 ≤ per * (c.l / gI c.l per) := by
  have h2 := (per_bd hc h).1
  have := Int.mul_le_mul h h2 (by omega) (by omega)
  omega
theorem stands_here {l : List (Cyc × Int)} {d per : Int} (h : ProgD l d per) : Stands l d := (h d (Int.le_refl d)).2 ⟨0, by simp⟩
/-- what meetL finds is the first day, and what it says is the period -/
theorem meetL_some : ∀ (l2 l1 : List (Cyc × Int)) (d per D P : Int), (∀ q ∈ l2, cycB q.1 = true) → 1 ≤ per → ProgD l1 d per → meetL l2 d per = some (D, P) → ProgD (l1 ++ l2) D P ∧ d ≤ D ∧ 1 ≤ P ∧ ∀ x, d ≤ x → x < D → ¬ Stands (l1 ++ l2) x
  | [], l1, d, per, D, P, _, hp, hP, h => by
    simp only [meetL, Option.some.injEq, Prod.mk.injEq] at h
    obtain ⟨rfl, rfl⟩ := h
    rw [List.append_nil]
    exact ⟨hP, Int.le_refl _, hp, fun x h1 h2 => by omega⟩
  | (c, p) :: l2, l1, d, per, D, P, hall, hp, hP, h => by
    have hc : cycB c = true := hall (c, p) (.head _)
    unfold meetL at h
    cases hs : seek c p per c.l.toNat d with
    | none => rw [hs] at h; cases h
    | some e =>
      rw [hs] at h
      obtain ⟨g1, g2, g3, g4⟩ := prog_step hc hp hP hs
      obtain ⟨k1, k2, k3, k4⟩ := meetL_some l2 (l1 ++ [(c, p)]) e _ D P (fun q hq => hall q (.tail _ hq)) (per_pos hc hp) g1 h
      rw [List.append_assoc, List.singleton_append] at k1 k4
      refine ⟨k1, by omega, k3, fun x h1 h2 hx => ?_⟩
      by_cases hxe : x < e
      · exact g4 x h1 hxe fun q hq => hx q (by rcases List.mem_append.1 hq with h | h; exact List.mem_append_left _ h; exact List.mem_append_right _ (List.mem_singleton.1 h ▸ List.mem_cons_self))
      · exact k4 x (by omega) h2 hx
theorem meetL_none : ∀ (l2 l1 : List (Cyc × Int)) (d per : Int), (∀ q ∈ l2, cycB q.1 = true) → 1 ≤ per → ProgD l1 d per → meetL l2 d per = none → ∀ x, d ≤ x → x ≤ 1000000 → ¬ Stands (l1 ++ l2) x
  | [], l1, d, per, _, hp, hP, h => by simp [meetL] at h
  | (c, p) :: l2, l1, d, per, hall, hp, hP, h => by
    have hc : cycB c = true := hall (c, p) (.head _)
    have hsub : ∀ {x}, Stands (l1 ++ (c, p) :: l2) x → Stands (l1 ++ [(c, p)]) x := fun hx q hq => hx q (by rcases List.mem_append.1 hq with h | h; exact List.mem_append_left _ h; exact List.mem_append_right _ (List.mem_singleton.1 h ▸ List.mem_cons_self))
    unfold meetL at h
    cases hs : seek c p per c.l.toNat d with
    | none =>
      intro x h1 h2 hx
      exact prog_none hc hp hP hs x h1 h2 (hsub hx)
    | some e =>
      rw [hs] at h
      obtain ⟨g1, g2, g3, g4⟩ := prog_step hc hp hP hs
      have hn := meetL_none l2 (l1 ++ [(c, p)]) e _ (fun q hq => hall q (.tail _ hq)) (per_pos hc hp) g1 h
      rw [List.append_assoc, List.singleton_append] at hn
      intro x h1 h2 hx
      by_cases hxe : x < e
      · exact g4 x h1 hxe (hsub hx)
      · exact hn x (by omega) h2 hx
theorem prog_nil (d : Int) : ProgD [] d 1 := fun x hx => ⟨fun _ => ⟨(x - d).toNat, by omega⟩, fun _ q hq => by cases hq⟩
end Go.Proofs.Ytfbnllmmoaialaa
namespace Go.Proofs.Ytfbnllmmoaialaa

theorem meetL_bd : ∀ (l : List (Cyc × Int)) (d per D P : Int), (∀ q ∈ l, cycB q.1 = true) → 1 ≤ per → 0 ≤ d → d ≤ 1000000 → meetL l d per = some (D, P) → D ≤ 1000000
  | [], d, per, D, P, _, _, _, h1, h => by
    simp only [meetL, Option.some.injEq, Prod.mk.injEq] at h
    omega
  | (c, p) :: l, d, per, D, P, hall, hp, h0, h1, h => by
    have hc : cycB c = true := hall (c, p) (.head _)
    unfold meetL at h
    cases hs : seek c p per c.l.toNat d with
    | none => rw [hs] at h; cases h
    | some e =>
      rw [hs] at h
      obtain ⟨e0, e1⟩ := seek_bd (by omega) _ _ _ h0 h1 hs
      exact meetL_bd l e _ D P (fun q hq => hall q (.tail _ hq)) (per_pos hc hp) e0 e1 h
/-- what a call of Meet that is answered says of its arguments and of its answer -/
structure MeetOk (cs : List Cyc) (ps : List Int) (d D P : Int) : Prop where
  len : cs.length ≤ 8
  same : ps.length = cs.length
  cyc : ∀ c ∈ cs, cycB c = true
  d0 : 0 ≤ d
  d1 : d ≤ 1000000
  le : d ≤ D
  bd : D ≤ 1000000
  per : 1 ≤ P
  prog : ProgD (cs.zip ps) D P
  first : ∀ x, d ≤ x → x < D → ¬ Stands (cs.zip ps) x
theorem zip_cyc {cs : List Cyc} {ps : List Int} (h : ∀ c ∈ cs, cycB c = true) : ∀ q ∈ cs.zip ps, cycB q.1 = true := fun _ hq => h _ (List.of_mem_zip hq).1
/-- Meet's arguments are fit -/
def MeetArgs (cs : List Cyc) (ps : List Int) (d : Int) : Prop := cs.length ≤ 8 ∧ cs.all cycB = true ∧ ps.length = cs.length ∧ posOk (cs.zip ps) = true ∧ inB d 0 1000000 = true
theorem meetR_fit {cs : List Cyc} {ps : List Int} {d : Int} (h : MeetArgs cs ps d) : meetR cs ps d = meetS (meetL (cs.zip ps) d 1) := by
  obtain ⟨h1, h2, h3, h4, h5⟩ := h
  unfold meetR
  rw [if_neg (by omega), if_neg (by simp [h2]), if_neg (by simp [h3]), if_neg (by simp [h4]), if_neg (by simp [h5])]
theorem meetR_or (cs : List Cyc) (ps : List Int) (d : Int) : MeetArgs cs ps d ∨ ((meetR cs ps d).1 = 0 ∧ (meetR cs ps d).2.1 = 0 ∧ (meetR cs ps d).2.2 ≠ 0) := by
  by_cases h : MeetArgs cs ps d
  · exact .inl h
  · refine .inr ?_
    unfold meetR
    split
    · decide
    · split
      · decide
      · split
        · decide
        · split
          · decide
          · split
            · decide
            · rename_i h1 h2 h3 h4 h5
              exact absurd ⟨by omega, by simpa using h2, by omega, by simpa using h4, by simpa using h5⟩ h
theorem meetS_cases (o : Option (Int × Int)) : (meetS o = (0, 0, 7) ∧ o = none) ∨ ∃ D P, o = some (D, P) ∧ meetS o = (D, P, 0) := by
  cases o with
  | none => exact .inl ⟨rfl, rfl⟩
  | some x => exact .inr ⟨x.1, x.2, rfl, rfl⟩
theorem meetR_0 {cs : List Cyc} {ps : List Int} {d D P : Int} (h : meetR cs ps d = (D, P, 0)) : MeetOk cs ps d D P ∧ MeetArgs cs ps d := by
  rcases meetR_or cs ps d with ha | ⟨-, -, hn⟩
  · have hr := meetR_fit ha
    obtain ⟨h1, h2, h3, -, h5⟩ := id ha
    have h2 : ∀ c ∈ cs, cycB c = true := List.all_eq_true.1 h2
    obtain ⟨d0, d1⟩ := inB_iff.1 h5
    rw [hr] at h
    rcases meetS_cases (meetL (cs.zip ps) d 1) with ⟨e, -⟩ | ⟨D', P', e, e2⟩
    · rw [e] at h; cases h
    · rw [e2] at h
      cases h
      obtain ⟨k1, k2, k3, k4⟩ := meetL_some (cs.zip ps) [] d 1 D P (zip_cyc h2) (by omega) (prog_nil d) e
      exact ⟨⟨h1, h3, h2, d0, d1, k2, meetL_bd _ _ _ _ _ (zip_cyc h2) (by omega) d0 d1 e, k3, k1, k4⟩, ha⟩
  · rw [h] at hn; exact absurd rfl hn
theorem meetR_n0 {cs : List Cyc} {ps : List Int} {d : Int} (h : (meetR cs ps d).2.2 ≠ 0) : (meetR cs ps d).1 = 0 ∧ (meetR cs ps d).2.1 = 0 := by
  rcases meetR_or cs ps d with ha | ⟨h1, h2, -⟩
  · rw [meetR_fit ha] at h ⊢
    rcases meetS_cases (meetL (cs.zip ps) d 1) with ⟨e, -⟩ | ⟨D', P', e, e2⟩
    · rw [e]; exact ⟨rfl, rfl⟩
    · rw [e2] at h; exact absurd rfl h
  · exact ⟨h1, h2⟩
theorem MeetOk.stands {cs : List Cyc} {ps : List Int} {d D P : Int} (h : MeetOk cs ps d D P) (k : Nat) : Stands (cs.zip ps) (D + P * k) := by
  have hk : 0 ≤ P * (k : Int) := Int.mul_nonneg (by have := h.per; omega) (by omega)
  exact (h.prog _ (by omega)).2 ⟨k, rfl⟩
theorem MeetOk.at_ {cs : List Cyc} {ps : List Int} {d D P : Int} (h : MeetOk cs ps d D P) {i : Nat} (hi : i < cs.length) : posI cs[i] D = ps[i]'(by have := h.same; omega) ∧ cs[i].l ∣ P ∧ 1 ≤ cs[i].l ∧ cs[i].l ≤ 64 ∧ cycB cs[i] = true := by
  have hi2 : i < ps.length := by have := h.same; omega
  have hm : (cs[i], ps[i]) ∈ cs.zip ps := List.mem_iff_getElem.2 ⟨i, by simp; omega, by simp⟩
  have h0 := h.stands 0 _ hm
  have h1 := h.stands 1 _ hm
  have hc := h.cyc _ (List.getElem_mem hi)
  simp only [Int.natCast_zero, Int.mul_zero, Int.add_zero, Int.natCast_one, Int.mul_one] at h0 h1
  obtain ⟨⟨c1, c2⟩, -⟩ := cycB_iff.1 hc
  refine ⟨h0, ?_, c1, c2, hc⟩
  have := (posI_eq hc (x := D + P) (y := D)).1 (h1.trans h0.symm)
  rwa [show D + P - D = P by omega] at this
/-- a day later -/
theorem meet_again {cs : List Cyc} {ps : List Int} {d D P : Int} (h : MeetOk cs ps d D P) (ha : MeetArgs cs ps d) (hD : D < 1000000) : (P ≤ 1000000 - D ∧ meetR cs ps (D + 1) = (D + P, P, 0)) ∨ (1000000 - D < P ∧ meetR cs ps (D + 1) = (0, 0, 7)) := by
  obtain ⟨a1, a2, a3, a4, a5⟩ := ha
  have h0 := h.d0; have hle := h.le; have hP := h.per
  have ha2 : MeetArgs cs ps (D + 1) := ⟨a1, a2, a3, a4, inB_iff.2 ⟨by omega, by omega⟩⟩
  have hr := meetR_fit ha2
  have s1 : Stands (cs.zip ps) (D + P) := by have := h.stands 1; simpa using this
  rcases meetS_cases (meetL (cs.zip ps) (D + 1) 1) with ⟨e, en⟩ | ⟨D2, P2, e, e2⟩
  · have hn := meetL_none (cs.zip ps) [] (D + 1) 1 (zip_cyc h.cyc) (by omega) (prog_nil _) en (D + P) (by omega)
    refine .inr ⟨?_, by rw [hr, e]⟩
    by_cases hb : D + P ≤ 1000000
    · exact absurd s1 (hn hb)
    · omega
  · rw [e2] at hr
    obtain ⟨m, -⟩ := meetR_0 hr
    have q2 := m.le; have q3 := m.per; have q4 := m.bd
    obtain ⟨k, hk⟩ := (h.prog D2 (by omega)).1 (by have := m.stands 0; simpa using this)
    have hk1 : 1 ≤ k := by
      cases k with
      | zero => simp at hk; omega
      | succ k => omega
    have hge : P * 1 ≤ P * (k : Int) := Int.mul_le_mul_of_nonneg_left (by omega) (by omega)
    have hD2 : D2 = D + P := by
      by_cases hlt : D + P < D2
      · exact absurd s1 (m.first (D + P) (by omega) hlt)
      · omega
    have s2 : Stands (cs.zip ps) (D2 + P) := by
      have := h.stands 2
      rw [show D + P * ((2 : Nat) : Int) = D2 + P by omega] at this
      exact this
    have s3 : Stands (cs.zip ps) (D2 + P2) := by have := m.stands 1; simpa using this
    obtain ⟨j, hj⟩ := (m.prog (D2 + P) (by omega)).1 s2
    obtain ⟨t, ht⟩ := (h.prog (D2 + P2) (by omega)).1 s3
    have hj1 : 1 ≤ j := by
      cases j with
      | zero => simp at hj; omega
      | succ j => omega
    have hjj : P2 * 1 ≤ P2 * (j : Int) := Int.mul_le_mul_of_nonneg_left (by omega) (by omega)
    have ht2 : 2 ≤ t := by
      rcases Nat.lt_or_ge t 2 with hlt | hge
      · have : P * (t : Int) ≤ P * 1 := Int.mul_le_mul_of_nonneg_left (by omega) (by omega)
        omega
      · exact hge
    have htt : P * 2 ≤ P * (t : Int) := Int.mul_le_mul_of_nonneg_left (by omega) (by omega)
    have hPP : P2 = P := by omega
    refine .inl ⟨by omega, ?_⟩
    rw [hr, hD2, hPP]
/-- the positions of a day meet on it, or earlier -/
theorem meet_here {cs : List Cyc} {d t : Int} (hl : cs.length ≤ 8) (hc : ∀ c ∈ cs, cycB c = true) (h0 : 0 ≤ d) (hdt : d ≤ t) (ht : t ≤ 1000000) : ∃ D P, meetR cs (cs.map fun c => posI c t) d = (D, P, 0) ∧ d ≤ D ∧ D ≤ t := by
  have hz : ∀ q ∈ cs.zip (cs.map fun c => posI c t), q.1 ∈ cs ∧ q.2 = posI q.1 t := by
    intro q hq
    obtain ⟨i, hi, e⟩ := List.mem_iff_getElem.1 hq
    simp at hi e
    rw [← e]
    exact ⟨List.getElem_mem hi, rfl⟩
  have ha : MeetArgs cs (cs.map fun c => posI c t) d := by
    refine ⟨hl, List.all_eq_true.2 hc, by simp, List.all_eq_true.2 fun q hq => ?_, inB_iff.2 ⟨h0, by omega⟩⟩
    obtain ⟨h1, h2⟩ := hz q hq
    obtain ⟨⟨c1, c2⟩, -⟩ := cycB_iff.1 (hc _ h1)
    have e1 := Int.emod_nonneg (t - q.1.s + q.1.l) (show q.1.l ≠ 0 by omega)
    have e2 := Int.emod_lt_of_pos (t - q.1.s + q.1.l) (show 0 < q.1.l by omega)
    rw [h2]
    exact inB_iff.2 ⟨e1, by unfold posI; omega⟩
  have hst : Stands (cs.zip (cs.map fun c => posI c t)) t := fun q hq => (hz q hq).2.symm
  have hr := meetR_fit ha
  rcases meetS_cases (meetL (cs.zip (cs.map fun c => posI c t)) d 1) with ⟨e, en⟩ | ⟨D, P, e, e2⟩
  · exact absurd hst (meetL_none _ [] d 1 (zip_cyc hc) (by omega) (prog_nil _) en t hdt ht)
  · rw [e2] at hr
    obtain ⟨m, -⟩ := meetR_0 hr
    refine ⟨D, P, hr, m.le, ?_⟩
    by_cases hlt : t < D
    · exact absurd hst (m.first t hdt hlt)
    · omega
end Go.Proofs.Ytfbnllmmoaialaa
namespace Go.Proofs.Ytfbnllmmoaialaa
open Go.RowKit

theorem meetV {cs : List Cyc} {ps : List Int} {d D P E : Int} (h : meetR cs ps d = (D, P, E)) (A A2 : Option Addr) (c c2 : Nat) (w : World) (hl : cs.length ≤ 1000000) (hl2 : ps.length ≤ 1000000) (hr : Sl Cyc.cells 2 w w.heap.size A cs) (hr2 : Sl intCell 1 w w.heap.size A2 ps) :
    Calls Try.prog 32 #[.slice A cs.length c, .slice A2 ps.length c2, .int .i64 d] w fun e w' => e = .returned (.tuple #[.int .i64 D, .int .i64 P, .int .i64 E]) ∧ Below w.heap.size w w' := by
  have h1 := meet_any A c cs A2 c2 ps d w hl hl2 hr hr2
  rw [h] at h1
  exact h1
theorem positionV {c : Cyc} {d p e : Int} (h : posR c d = (p, e)) (w : World) : Calls Try.prog 26 #[.agg #[.int .i64 c.l, .int .i64 c.s], .int .i64 d] w fun en w' => en = .returned (.tuple #[.int .i64 p, .int .i64 e]) ∧ Below w.heap.size w w' := by
  obtain ⟨l, s⟩ := c
  have h1 := positionF_any l s d w
  rw [h] at h1
  exact h1
abbrev dialv (A2 : Option Addr) (n c2 : Nat) (f m : Int) : Array Value := #[.slice A2 n c2, .int .i64 f, .int .u8 m]
/-- what holds at the head of the loop over the positions of a day -/
def LcRel (cs : List Cyc) (t : Int) (w : World) (dv : Array Value) (pl i : Value) (wr : World) : Prop := ∃ (k : Nat) (Ap : Option Addr) (cp : Nat), k ≤ cs.length ∧ i = .int .i64 k ∧ pl = .slice Ap k cp ∧ Hid (∀ c ∈ cs.take k, cycB c = true) ∧ Hid (wr.ownsRow (w.heap.size + 1) 3 1 pl k (((cs.take k).map fun c => posI c t).map (Value.int .i64))) ∧ Hid (Below w.heap.size w wr) ∧ Blk wr w.heap.size dv 67
end Go.Proofs.Ytfbnllmmoaialaa

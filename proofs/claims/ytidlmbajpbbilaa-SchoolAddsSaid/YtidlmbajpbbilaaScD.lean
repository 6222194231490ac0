/- School: is a chart in a region; do tests hold. -/
import Derived.Test.YtidlmbajpbbilaaScC
namespace Go.Proofs.Ytidlmbajpbbilaa
open Go.RowKit

theorem hasB_of (xs : List Int) : ∀ (fs : List Int), xs.length = fs.length → (∀ k, (h : k < fs.length) → (h' : k < xs.length) → bitB xs[k] fs[k] = true) → hasB xs fs = true := by
  induction xs with
  | nil => intro fs h _; cases fs <;> simp_all [hasB]
  | cons x xs ih =>
    intro fs h hh
    cases fs with
    | nil => rfl
    | cons f fs =>
      simp only [hasB, Bool.and_eq_true]
      refine ⟨by have := hh 0 (by simp) (by simp); simpa using this, ih fs (by simpa using h) fun k h1 h2 => ?_⟩
      have := hh (k + 1) (by simpa using h1) (by simpa using h2)
      simpa using this
theorem hasB_not (xs : List Int) : ∀ (fs : List Int) (k : Nat) (h : k < fs.length) (h' : k < xs.length), bitB xs[k] fs[k] = false → hasB xs fs = false := by
  induction xs with
  | nil => intro fs k h h'; simp at h'
  | cons x xs ih =>
    intro fs k h h' hh
    cases fs with
    | nil => simp at h
    | cons f fs =>
      simp only [hasB, Bool.and_eq_false_iff]
      cases k with
      | zero => left; simpa using hh
      | succ k => right; exact ih fs k (by simpa using h) (by simpa using h') (by simpa using hh)

set_option maxRecDepth 100000 in
theorem regHas_any (A A2 : Option Addr) (c c2 : Nat) (l fs : List Int) (w : World) (hl : fs.length ≤ 1000000) (hn : l.length = fs.length) (ho : ∀ x ∈ l, IsU64 x) (hf : ∀ x ∈ fs, 0 ≤ x ∧ x ≤ 63)
    (hr : Sl setCell1 1 w w.heap.size A l) (hr2 : Sl intCell 1 w w.heap.size A2 fs) :
    Calls Try.prog 54 #[.slice A l.length c, .slice A2 fs.length c2] w fun e w' => e = .returned (.bool (hasB l fs)) ∧ w = w' := by
  have HO := Lib.hid ho; have HF := Lib.hid hf; have HR := Lib.hid hr; have HR2 := Lib.hid hr2; have HN := Lib.hid hn
  clear ho hf hr hr2
  have hn1 : l.length ≤ fs.length := by omega
  have hn2 : fs.length ≤ l.length := by omega
  clear hn
  go_enter Try.func54, Try.ntmps54
  go_wp2
  go_loop [9] (fun i => ∃ k : Nat, k ≤ fs.length ∧ i = .int .i64 k ∧ Hid (∀ j, j < k → ∀ (hj : j < fs.length) (hj' : j < l.length), bitB l[j] fs[j] = true)) (fun i => fs.length - (intOf i).toNat)
  case atStart => exact ⟨0, by omega, rfl, fun j h => by omega⟩
  case round =>
    obtain ⟨k, hk, rfl, hno⟩ := hrel
    by_cases hlt : k < fs.length
    · have hlt2 : k < l.length := by omega
      obtain ⟨ab, ao, rfl, hblk, hcell⟩ := HR.out.at_ (k := k) (fun _ => rfl) hlt2
      obtain ⟨cb, co, rfl, hblk2, hcell2⟩ := HR2.out.at_ (k := k) (fun _ => rfl) hlt
      obtain ⟨x, hx⟩ : ∃ t, l[k] = t := ⟨_, rfl⟩
      obtain ⟨f, hf⟩ : ∃ t, fs[k] = t := ⟨_, rfl⟩
      rw [hx] at hcell
      rw [hf] at hcell2
      have hxb := HO.out x (hx ▸ List.getElem_mem hlt2)
      have hfb := HF.out f (hf ▸ List.getElem_mem hlt)
      have HB := Lib.hid (bit_u64 x f hxb)
      unfold IsU64 at hxb
      have c0 : w.cell? ⟨ab, ao + k, none⟩ = some (.int .u64 x) := by have := hcell 0 _ rfl; simpa using this
      have c1 : w.cell? ⟨cb, co + k, none⟩ = some (.int .i64 f) := by have := hcell2 0 _ rfl; simpa using this
      clear hcell hcell2
      have HX := Lib.hid hx; have HFF := Lib.hid hf
      clear hx hf
      by_cases hbit : bitB x f = true
      · have hq : (bits BinOp.and IntKind.u64 (x / 2 ^ f.toNat) 1 == 0) = false := by rw [HB.out, hbit]; rfl
        go_wp2
        go_round
        case rel => exact ⟨k + 1, by omega, by go_num, upto_succ hno (fun _ _ => by rw [HX.out, HFF.out]; exact hbit)⟩
        case measure => simp [intOf]; omega
      · simp only [Bool.not_eq_true] at hbit
        have hq : (bits BinOp.and IntKind.u64 (x / 2 ^ f.toNat) 1 == 0) = true := by rw [HB.out, hbit]; rfl
        go_wp2
        go_ret
        exact ⟨ret_bool (hasB_not l fs k hlt hlt2 (by rw [HX.out, HFF.out]; exact hbit)).symm, rfl⟩
    · go_wp2
      go_ret
      obtain rfl : k = fs.length := by omega
      exact ⟨ret_bool (hasB_of l fs HN.out fun j h1 h2 => hno.out j h1 h1 h2).symm, rfl⟩

/-- does a test hold for a chart -/
def holdB (ch : List Int) (t : Tst) : Bool :=
  let f := ch.getD t.place.toNat 0
  let g := ch.getD t.other.toNat 0
  if t.kind == 1 then bitB t.set f else if t.kind == 2 then f == g else f != g
/-- a test that a school with so many places may have -/
def TestFit (n : Nat) (t : Tst) : Prop := t.ok ∧ 0 ≤ t.place ∧ t.place < n ∧ 0 ≤ t.other ∧ t.other < n
theorem ent_holds1 : Ent 92 := ent_of Try.func92 (by kernel_rfl) rfl
set_option maxRecDepth 100000 in
theorem holds1_any (A : Option Addr) (c : Nat) (ch : List Int) (t : Tst) (B : Nat) (W : World) (n : Nat) (hn : n = ch.length) (ht : TestFit n t) (hf : ∀ x ∈ ch, 0 ≤ x ∧ x ≤ 63) (hbx : W.cell? ⟨B, 0, none⟩ = some (.slice A ch.length c)) (hB : B < W.heap.size)
    (hr : Sl intCell 1 W W.heap.size A ch) :
    Calls Try.prog 92 (#[Value.agg #[.int .i64 t.kind, .int .i64 t.place, .int .i64 t.other, .int .u64 t.set]] ++ #[.pointer (some ⟨B, 0, none⟩)]) W fun e W' => e = .returned (.bool (!holdB ch t)) ∧ Below W.heap.size W W' := by
  obtain ⟨ht0, hp0, hp1, hq0, hq1⟩ := ht
  have hu := ht0.2
  obtain ⟨tk, tp, to, ts⟩ := t
  simp only at *
  obtain ⟨p, rfl⟩ := Int.eq_ofNat_of_zero_le hp0
  obtain ⟨q, rfl⟩ := Int.eq_ofNat_of_zero_le hq0
  have hpl : p < ch.length := by omega
  have hql : q < ch.length := by omega
  obtain ⟨ab, ao, rfl, hblk, hcell⟩ := hr.at_ (k := p) (fun _ => rfl) hpl
  obtain ⟨ab', ao', e, hblk', hcell'⟩ := hr.at_ (k := q) (fun _ => rfl) hql
  cases e
  have hfb := hf _ (List.getElem_mem hpl)
  obtain ⟨f, hfe⟩ : ∃ t, ch[p] = t := ⟨_, rfl⟩
  obtain ⟨g, hge⟩ : ∃ t, ch[q] = t := ⟨_, rfl⟩
  have e1 : ch.getD p 0 = f := by rw [← hfe]; simp [List.getD, List.getElem?_eq_getElem hpl]
  have e2 : ch.getD q 0 = g := by rw [← hge]; simp [List.getD, List.getElem?_eq_getElem hql]
  rw [hfe] at hcell hfb
  rw [hge] at hcell'
  have c0 : W.cell? ⟨ab, ao + p, none⟩ = some (.int .i64 f) := by have := hcell 0 _ rfl; simpa using this
  have c1 : W.cell? ⟨ab, ao + q, none⟩ = some (.int .i64 g) := by have := hcell' 0 _ rfl; simpa using this
  have E : holdB ch ⟨tk, p, q, ts⟩ = if tk == 1 then bitB ts f else if tk == 2 then f == g else f != g := by simp only [holdB, Int.toNat_natCast, e1, e2]
  rw [E]
  obtain ⟨L, hL⟩ : ∃ L, L = ch.length := ⟨_, rfl⟩
  rw [← hL] at hbx hpl hql
  clear hcell hcell' hfe hge e1 e2 hr hf hn ht0 E hL hp0 hp1 hq0 hq1
  by_cases k1 : (tk == 1) = true
  · go_enter Try.func92, Try.ntmps92
    go_wp2
    go_ret
    refine ⟨ret_bool ?_, by (repeat (first | exact Below.refl _ _ | assumption | (refine Below.alloc ?_ (by first | omega | (simp; omega) | (simp; done)) _) | (refine Below.setCell ?_ (by first | omega | (simp; omega) | (simp; done)) _) | (refine Below.drew ?_) | (refine belowN ?_ _) | (refine Below.trans ?_ (Below.mono ‹Below _ _ _› (by first | omega | (simp; omega) | (simp; done))))))⟩
    exact bit_u64 ts f hu
  · simp only [Bool.not_eq_true] at k1
    by_cases k2 : (tk == 2) = true
    · go_enter Try.func92, Try.ntmps92
      go_wp2
      go_ret
      refine ⟨ret_bool ?_, by (repeat (first | exact Below.refl _ _ | assumption | (refine Below.alloc ?_ (by first | omega | (simp; omega) | (simp; done)) _) | (refine Below.setCell ?_ (by first | omega | (simp; omega) | (simp; done)) _) | (refine Below.drew ?_) | (refine belowN ?_ _) | (refine Below.trans ?_ (Below.mono ‹Below _ _ _› (by first | omega | (simp; omega) | (simp; done))))))⟩
      first | rfl | simp
    · simp only [Bool.not_eq_true] at k2
      go_enter Try.func92, Try.ntmps92
      go_wp2
      go_ret
      refine ⟨ret_bool ?_, by (repeat (first | exact Below.refl _ _ | assumption | (refine Below.alloc ?_ (by first | omega | (simp; omega) | (simp; done)) _) | (refine Below.setCell ?_ (by first | omega | (simp; omega) | (simp; done)) _) | (refine Below.drew ?_) | (refine belowN ?_ _) | (refine Below.trans ?_ (Below.mono ‹Below _ _ _› (by first | omega | (simp; omega) | (simp; done))))))⟩
      simp [bne]

def holdsB (ch : List Int) (ts : List Tst) : Bool := ts.all (holdB ch)
theorem holds_any (A A2 : Option Addr) (c c2 : Nat) (ch : List Int) (ts : List Tst) (w : World) (n : Nat) (hn : n = ch.length) (hl : ts.length ≤ 1000000) (ho : ∀ t ∈ ts, TestFit n t) (hf : ∀ x ∈ ch, 0 ≤ x ∧ x ≤ 63)
    (hr : Sl Tst.cells 4 w w.heap.size A ts) (hr2 : Sl intCell 1 w w.heap.size A2 ch) :
    Calls Try.prog 69 #[.slice A ts.length c, .slice A2 ch.length c2] w fun e w' => e = .returned (.bool (holdsB ch ts)) ∧ Below w.heap.size w w' := by
  have HC : ∀ (W : World) (B : Nat), Below w.heap.size w W → B < W.heap.size → W.cell? ⟨B, 0, none⟩ = some (.slice A2 ch.length c2) → Calls Try.prog 89 #[.slice A ts.length c, .func (.func 92) #[] #[.pointer (some ⟨B, 0, none⟩)]] W fun e w' => e = .returned (.bool (ts.any fun t => !holdB ch t)) ∧ Below W.heap.size W w' := by
    intro W B hW hB hBc
    refine tests_any_any 92 _ A c ts _ W ent_holds1 hl ((hr.below hW).more hW.size) ?_
    intro t ht W' hW'
    exact holds1_any A2 c2 ch t B W' n hn (ho t ht) hf (by rw [hW'.cell (p := ⟨B, 0, none⟩) hB]; exact hBc) (by have := hW'.size; omega) ((hr2.below (hW.trans (hW'.mono hW.size))).more (by have := hW'.size; have := hW.size; omega))
  have HC := fun W B => Lib.hid (HC W B)
  clear ho hf hr hr2 hn
  go_enter Try.func69, Try.ntmps69
  go_wp2_with fail
  refine ((HC _ w.heap.size).out (by (repeat (first | exact Below.refl _ _ | assumption | (refine Below.alloc ?_ (by first | omega | (simp; omega) | (simp; done)) _) | (refine Below.setCell ?_ (by first | omega | (simp; omega) | (simp; done)) _) | (refine Below.drew ?_) | (refine belowN ?_ _) | (refine Below.trans ?_ (Below.mono ‹Below _ _ _› (by first | omega | (simp; omega) | (simp; done))))))) (by simp) (by simp [go_sem])).mono ?_
  rintro e w1 ⟨rfl, hb1⟩
  go_wp2
  go_ret
  exact ⟨ret_bool (by simp only [holdsB, not_any_not]), by (repeat (first | exact Below.refl _ _ | assumption | (refine Below.alloc ?_ (by first | omega | (simp; omega) | (simp; done)) _) | (refine Below.setCell ?_ (by first | omega | (simp; omega) | (simp; done)) _) | (refine Below.drew ?_) | (refine belowN ?_ _) | (refine Below.trans ?_ (Below.mono ‹Below _ _ _› (by first | omega | (simp; omega) | (simp; done))))))⟩
end Go.Proofs.Ytidlmbajpbbilaa

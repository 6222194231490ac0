/- School: Count. -/
import Derived.Test.YtidlmbajpbbilaaZ07ScO
import Derived.Shelf.RegionOpen
namespace Go.Proofs.Ytidlmbajpbbilaa
open Go.RowKit
attribute [local go_sem] Oper.semAt_some

/-- how many of the numbers below k have a property -/
def cnt (p : Nat → Bool) : Nat → Int
  | 0 => 0
  | k + 1 => cnt p k + if p k then 1 else 0
theorem cnt_bd (p : Nat → Bool) (k : Nat) : 0 ≤ cnt p k ∧ cnt p k ≤ k := by
  induction k with
  | zero => simp [cnt]
  | succ k ih => simp only [cnt]; split <;> omega
theorem cnt_yes {p : Nat → Bool} {k : Nat} (h : p k = true) : cnt p (k + 1) = cnt p k + 1 := by simp [cnt, h]
theorem cnt_no {p : Nat → Bool} {k : Nat} (h : p k = false) : cnt p (k + 1) = cnt p k := by simp [cnt, h]
/-- the answers of a reading -/
def ansL (s : Sch) (kind : Int) (k : Nat) : List Nat := (List.range 20).filter (ansOf s 0 kind (chartL s k))
def inR (s : Sch) (sets : List Int) (k : Nat) : Bool := hasB sets (chartL s k)
def kdAt (s : Sch) (kind : Int) (k : Nat) : Int := kindOf (ansL s kind k)
def silR (s : Sch) (sets : List Int) (kind : Int) (k : Nat) : Bool := inR s sets k && kdAt s kind k == 2
def splR (s : Sch) (sets : List Int) (kind : Int) (k : Nat) : Bool := inR s sets k && kdAt s kind k == 3
def saidR (s : Sch) (sets : List Int) (kind : Int) (a : Nat) (k : Nat) : Bool := inR s sets k && ansL s kind k == [a]
def saidL (s : Sch) (sets : List Int) (kind : Int) (k : Nat) : List Int := (List.range s.answers.toNat).map fun a => cnt (saidR s sets kind a) k
/-- charts, silent, split, said, error -/
def countR (s : Sch) (kind : Int) (sets : List Int) : Int × Int × Int × List Int × Int :=
  if schB s then (if inB kind 0 (s.kinds - 1) then (if regB s sets then
    (cnt (inR s sets) (chartsC s), cnt (silR s sets kind) (chartsC s), cnt (splR s sets kind) (chartsC s), saidL s sets kind (chartsC s), 0) else (0, 0, 0, [], 4)) else (0, 0, 0, [], 7)) else (0, 0, 0, [], 2)
def RetCount (x : Int × Int × Int × List Int × Int) (w : World) (e : Ending) (w' : World) : Prop :=
  ∃ A c, e = .returned (.tuple #[.agg #[.int .i64 x.1, .int .i64 x.2.1, .int .i64 x.2.2.1, .slice A x.2.2.2.1.length c], .int .i64 x.2.2.2.2]) ∧ Sl intCell 1 w' w'.heap.size A x.2.2.2.1 ∧ Below w.heap.size w w'
theorem retCount_nil {er : Int} {w w' : World} (h : Below w.heap.size w w') : RetCount (0, 0, 0, [], er) w (.returned (.tuple #[.agg #[.int .i64 0, .int .i64 0, .int .i64 0, .slice none 0 0], .int .i64 er])) w' :=
  ⟨none, 0, rfl, Reads.none_, h⟩

theorem wpList_make_blk {P : Program} (w : World) {ops : Array Oper} {rest : List Oper} {o : Oper} {a : Act} {Q : Exit → Act → World → Prop}
    (hg : o.guard = none) (l c : Operand) (t : TypeId) (hop : o.op = Op.makeSlice t l c) (e : TypeId) (i : TypeInfo) (z : Value) (h1 : P.underlying t = some (.slice e)) (h2 : P.info? e = some i) (h3 : i.zero = some z) (h4 : i.size = 1) (hz : z.cells = #[z])
    (kl kc : IntKind) (L C : Int) (n : Nat) (hl : a.eval l = .int kl L) (hc : a.eval c = .int kc C) (hL : L = (n : Int)) (hC : C = (n : Int)) (b2 : i.bytes * n ≤ 281474976710656) (b3 : n ≤ maxLen)
    (hK : ∀ w', Blk w' w.heap.size (List.replicate n z).toArray e → Below w.heap.size w w' → Hid (wpList P ops Q rest (a.put o.dst (.slice (some ⟨w.heap.size, 0, none⟩) n n)) w')) :
    wpList P ops Q (o :: rest) a w := by
  refine wpList_make_full w hg l c t hop w.heap.size e i z 1 h1 h2 h3 h4 kl kc L C n hl hc hL hC b2 b3 (Nat.le_refl _) ?_
  intro w' how hgr
  refine (hK w' ?_ ((Below.refl _ _).grown hgr (Nat.le_refl _) (fun g hg => by cases hg))).out
  rw [toList_madeCells_one' _ _ hz] at how
  rcases how.2 with ⟨h', _⟩ | ⟨g', cap', cur, h', hb, hg, hnc, hcm, hcs, htake⟩
  · simp at h'
  · simp only [Value.slice.injEq, Option.some.injEq, Addr.mk.injEq, and_true, true_and] at h'
    obtain ⟨rfl, rfl⟩ := h'
    have : cur = (List.replicate n z).toArray := by
      rw [← htake, List.take_of_length_le (by simp [hcs])]
    rw [← this]; exact hg

/-- the blocks that Count uses -/
structure CO (B b1 b2 b3 r g a z : Nat) : Prop where
  h0 : B ≤ b1
  h1 : b1 < b2
  h2 : b2 < b3
  h3 : b3 < r
  h4 : r < g
  h5 : g < a
  h6 : a < z
structure CI (s : Sch) (kind : Int) (SV : Value) (N : Nat) (w : World) (b1 b2 b3 r g a z : Nat) (c0 c1 c2 : Int) (L : List Int) (W : World) : Prop where
  low : Below w.heap.size w W
  size : z ≤ W.heap.size
  h1 : Blk W b1 #[.int .i64 kind] 3
  h2 : Blk W b2 #[SV] 25
  h3 : Blk W b3 #[.int .i64 c0, .int .i64 c1, .int .i64 c2, .slice (some ⟨g, 0, none⟩) N N] 30
  h4 : Blk W r #[.int .i64 s.places, .int .i64 s.signs, .int .i64 s.kinds, .int .i64 s.answers, s.rv, .int .u32 0] 108
  h5 : Blk W g (L.map (Value.int .i64)).toArray 3
  h6 : Blk W a #[.int .i64 s.places, .int .i64 s.signs, .int .i64 s.kinds, .int .i64 s.answers, s.rv] 24
section
variable {s : Sch} {kind : Int} {SV : Value} {N : Nat} {w W : World} {b1 b2 b3 r g a z : Nat} {c0 c1 c2 : Int} {L : List Int}
theorem CI.stab (_o : CO w.heap.size b1 b2 b3 r g a z) {B : Nat} (hB : w.heap.size ≤ B) : Stab B (CI s kind SV N w b1 b2 b3 r g a z c0 c1 c2 L) := fun W W' row h hg hr =>
  ⟨Stab.low hB w (Nat.le_refl _) W W' row h.low hg hr, Nat.le_trans h.size hg.size, Stab.blk _ _ _ _ W W' row h.h1 hg hr, Stab.blk _ _ _ _ W W' row h.h2 hg hr, Stab.blk _ _ _ _ W W' row h.h3 hg hr, Stab.blk _ _ _ _ W W' row h.h4 hg hr, Stab.blk _ _ _ _ W W' row h.h5 hg hr, Stab.blk _ _ _ _ W W' row h.h6 hg hr⟩
theorem CI.below (o : CO w.heap.size b1 b2 b3 r g a z) (h : CI s kind SV N w b1 b2 b3 r g a z c0 c1 c2 L W) {W' : World} (hb : Below W.heap.size W W') : CI s kind SV N w b1 b2 b3 r g a z c0 c1 c2 L W' := by
  have := h.size; have := hb.size; obtain ⟨o0, o1, o2, o3, o4, o5, o6⟩ := o
  exact ⟨h.low.trans (hb.mono (by omega)), by omega, h.h1.below hb (by omega), h.h2.below hb (by omega), h.h3.below hb (by omega), h.h4.below hb (by omega), h.h5.below hb (by omega), h.h6.below hb (by omega)⟩
theorem CI.set0 (o : CO w.heap.size b1 b2 b3 r g a z) (h : CI s kind SV N w b1 b2 b3 r g a z c0 c1 c2 L W) (x : Int) : CI s kind SV N w b1 b2 b3 r g a z x c1 c2 L (W.setCell ⟨b3, 0, none⟩ (.int .i64 x)) := by
  have := h.size; obtain ⟨o0, o1, o2, o3, o4, o5, o6⟩ := o
  exact ⟨h.low.setCell (by simp; omega) _, by simpa using h.size, h.h1.far _ (by simp; omega) _, h.h2.far _ (by simp; omega) _, h.h3.set 0 _, h.h4.far _ (by simp; omega) _, h.h5.far _ (by simp; omega) _, h.h6.far _ (by simp; omega) _⟩
theorem CI.set1 (o : CO w.heap.size b1 b2 b3 r g a z) (h : CI s kind SV N w b1 b2 b3 r g a z c0 c1 c2 L W) (x : Int) : CI s kind SV N w b1 b2 b3 r g a z c0 x c2 L (W.setCell ⟨b3, 1, none⟩ (.int .i64 x)) := by
  have := h.size; obtain ⟨o0, o1, o2, o3, o4, o5, o6⟩ := o
  exact ⟨h.low.setCell (by simp; omega) _, by simpa using h.size, h.h1.far _ (by simp; omega) _, h.h2.far _ (by simp; omega) _, h.h3.set 1 _, h.h4.far _ (by simp; omega) _, h.h5.far _ (by simp; omega) _, h.h6.far _ (by simp; omega) _⟩
theorem CI.set2 (o : CO w.heap.size b1 b2 b3 r g a z) (h : CI s kind SV N w b1 b2 b3 r g a z c0 c1 c2 L W) (x : Int) : CI s kind SV N w b1 b2 b3 r g a z c0 c1 x L (W.setCell ⟨b3, 2, none⟩ (.int .i64 x)) := by
  have := h.size; obtain ⟨o0, o1, o2, o3, o4, o5, o6⟩ := o
  exact ⟨h.low.setCell (by simp; omega) _, by simpa using h.size, h.h1.far _ (by simp; omega) _, h.h2.far _ (by simp; omega) _, h.h3.set 2 _, h.h4.far _ (by simp; omega) _, h.h5.far _ (by simp; omega) _, h.h6.far _ (by simp; omega) _⟩
theorem CI.setL (o : CO w.heap.size b1 b2 b3 r g a z) (h : CI s kind SV N w b1 b2 b3 r g a z c0 c1 c2 L W) (j : Nat) (x : Int) : CI s kind SV N w b1 b2 b3 r g a z c0 c1 c2 (L.set j x) (W.setCell ⟨g, j, none⟩ (.int .i64 x)) := by
  have := h.size; obtain ⟨o0, o1, o2, o3, o4, o5, o6⟩ := o
  refine ⟨h.low.setCell (by simp; omega) _, by simpa using h.size, h.h1.far _ (by simp; omega) _, h.h2.far _ (by simp; omega) _, h.h3.far _ (by simp; omega) _, h.h4.far _ (by simp; omega) _, ?_, h.h6.far _ (by simp; omega) _⟩
  have := h.h5.set j (.int .i64 x)
  rw [List.setIfInBounds_toArray, ← List.map_set] at this
  exact this
end
theorem wpIn_world {P : Program} {F : Fence} {n : Nat} {c : Code} {Q : Exit → Act → World → Prop} {a : Act} {w0 : World} (F0 : World → Prop) (h0 : F0 w0) (h : ∀ W, F0 W → c.wpIn F n P Q a W) : c.wpIn F n P Q a w0 := h w0 h0
theorem saidL_len (s : Sch) (sets : List Int) (kind : Int) (k : Nat) : (saidL s sets kind k).length = s.answers.toNat := by simp [saidL]
/-- what Count knows between two rounds -/
abbrev CK (s : Sch) (kind : Int) (sets : List Int) (SV : Value) (N : Nat) (w : World) (b1 b2 b3 r g a z : Nat) (k : Nat) (W : World) : Prop :=
  CI s kind SV N w b1 b2 b3 r g a z (cnt (inR s sets) k) (cnt (silR s sets kind) k) (cnt (splR s sets kind) k) (saidL s sets kind k) W

theorem kindOf_two {l : List Nat} (h : kindOf l = 2) : l = [] := by
  unfold kindOf at h; split at h
  · exact List.length_eq_zero_iff.1 ‹_›
  · split at h <;> omega
theorem kindOf_one {l : List Nat} (h : kindOf l = 1) : ∃ y, l = [y] := by
  unfold kindOf at h; split at h
  · omega
  · split at h
    · exact List.length_eq_one_iff.1 ‹_›
    · omega
theorem kindOf_cases (l : List Nat) : kindOf l = 2 ∨ kindOf l = 3 ∨ kindOf l = 1 := by unfold kindOf; split <;> (try split) <;> simp
theorem saidL_same {s : Sch} {sets : List Int} {kind : Int} {k : Nat} (h : ∀ a, saidR s sets kind a k = false) : saidL s sets kind (k + 1) = saidL s sets kind k := by
  unfold saidL; exact List.map_congr_left fun a _ => cnt_no (h a)
theorem saidL_get {s : Sch} {sets : List Int} {kind : Int} {k y : Nat} (h : y < s.answers.toNat) : (saidL s sets kind k)[y]? = some (cnt (saidR s sets kind y) k) := by simp [saidL, h]
theorem saidL_next {s : Sch} {sets : List Int} {kind : Int} {k y : Nat} (h : ∀ a, saidR s sets kind a k = (a == y)) : saidL s sets kind (k + 1) = (saidL s sets kind k).set y (cnt (saidR s sets kind y) k + 1) := by
  apply List.ext_getElem
  · simp [saidL]
  intro i h1 h2
  rw [List.getElem_set]
  simp only [saidL, List.getElem_map, List.getElem_range]
  split
  · subst_vars; rw [cnt_yes (by rw [h]; simp)]
  · rw [cnt_no (by rw [h]; simp; omega)]
theorem ck_out {s : Sch} {kind : Int} {sets : List Int} {SV : Value} {N : Nat} {w W : World} {b1 b2 b3 r g a z k : Nat} (h : inR s sets k = false) (hc : CK s kind sets SV N w b1 b2 b3 r g a z k W) : CK s kind sets SV N w b1 b2 b3 r g a z (k + 1) W := by
  unfold CK at *
  rw [cnt_no h, cnt_no (by simp [silR, h]), cnt_no (by simp [splR, h]), saidL_same (fun a => by simp [saidR, h])]; exact hc
theorem saidTo_lt {s : Sch} (hv : Valid s) {L a : Nat} : ∀ n, saidTo s L n a = true → a < s.answers.toNat := by
  intro n
  induction n with
  | zero => intro h; simp [saidTo] at h
  | succ n ih =>
    intro h
    simp only [saidTo, Bool.or_eq_true, Bool.and_eq_true, beq_iff_eq] at h
    rcases h with h | ⟨_, rfl⟩
    · exact ih h
    · have ha := hv.answers
      by_cases hn : n < s.rules.length
      · have h1 := (hv.rule n hn).says
        have h2 : sys s n = (s.rules[n]).says.toNat := by simp [sys, List.getElem?_eq_getElem hn]
        omega
      · have h2 : sys s n = 0 := by simp [sys, List.getElem?_eq_none (Nat.le_of_not_lt hn)]
        omega
theorem bitsOf_ans (s : Sch) (O : Nat) (kind : Int) (ch : List Int) : bitsOf (ansN s O kind ch) = ((List.range 20).filter (ansOf s O kind ch)).map (fun (i : Nat) => (i : Int)) := by
  unfold bitsOf upBits ansN
  rw [filter_bset _ 20 31 (by omega)]
theorem CI.said {s : Sch} {kind : Int} {SV : Value} {N : Nat} {w W : World} {b1 b2 b3 r g a z : Nat} {c0 c1 c2 : Int} {L : List Int} (h : CI s kind SV N w b1 b2 b3 r g a z c0 c1 c2 L W) {y : Nat} {v : Int} (hy : L[y]? = some v) : W.cell? ⟨g, y, none⟩ = some (.int .i64 v) := by
  rw [h.h5.cell]; simp [hy]
theorem own_form {w : World} {base size : Nat} {e : TypeId} {v : Value} {x : Int} {xs : List Value} (h : w.ownsRow base e size v [x].length xs) : ∃ g cap, v = .slice (some ⟨g, 0, none⟩) 1 cap := by
  rcases h.2 with ⟨_, h0⟩ | ⟨g, cap, cur, rfl, _⟩
  · simp at h0
  · exact ⟨g, cap, rfl⟩
theorem sl_of_blk {W : World} {g : Nat} {L : List Int} {t : TypeId} (h : Blk W g (L.map (Value.int .i64)).toArray t) : Sl intCell 1 W W.heap.size (some ⟨g, 0, none⟩) L := by
  refine ⟨flat_length _ 1 (fun _ => rfl) L, fun _ => ⟨g, 0, rfl, h.lt, fun j u hu => ?_⟩⟩
  rw [h.cell, Nat.zero_add]
  have e : flat intCell L = L.map (Value.int .i64) := flat_one _ L
  rw [e] at hu
  simpa using hu
set_option maxRecDepth 100000 in
set_option maxHeartbeats 4000000 in
theorem count_any (s : Sch) (kind : Int) (sets : List Int) (A : Option Addr) (c : Nat) (w : World) (hr : s.reads w w.heap.size) (hl : sets.length ≤ 1000000) (ho : ∀ x ∈ sets, IsU64 x) (hA : Sl setCell1 1 w w.heap.size A sets) :
    Calls Try.prog 16 #[scv s s.rv, .int .i64 kind, .slice A sets.length c] w (RetCount (countR s kind sets) w) := by
  by_cases vs : schB s = true
  · have V := valid_of hr.oks vs
    have HC := fun W (hW : Below w.heap.size w W) => Lib.hid (chk_any vs W ((hr.below hW).more hW.size))
    have HI := fun W (hW : Below w.heap.size w W) => Lib.hid (regValid_any s s.rv A c sets W V.small hl ho ((hA.below hW).more hW.size))
    have HK := fun W => Lib.hid (isKind_any s s.rv kind W V.kinds.1 V.kinds.2)
    by_cases hk : inB kind 0 (s.kinds - 1) = true
    · rw [hk] at HK
      by_cases hc : regB s sets = true
      · rw [hc] at HI
        have kin := inB_iff.1 hk
        refine calls_marks Try.func16 rfl ?_
        simp only [Try.ntmps16, List.size_toArray, List.length_cons, List.length_nil, Nat.reduceAdd, Nat.reduceSub, Array.replicate_succ, Array.replicate_zero, List.push_toArray, List.append_toArray, List.nil_append, List.cons_append]
        go_wp2_with fail
        refine ((HC _ (by (repeat (first | exact Below.refl _ _ | assumption | (refine Below.alloc ?_ (by first | omega | (simp; omega) | (simp; done)) _) | (refine Below.setCell ?_ (by first | omega | (simp; omega) | (simp; done)) _) | (refine Below.drew ?_) | (refine belowN ?_ _) | (refine Below.trans ?_ (Below.mono ‹Below _ _ _› (by first | omega | (simp; omega) | (simp; done)))))))).out).mono ?_
        rintro e w1 ⟨rfl, hb1⟩
        have hc1 := fun b o (h : b < w.heap.size + 4) => (bcell hb1).1 b o (by simp; omega)
        have hf1 := fun b o (h : b < w.heap.size + 4) => (bcell hb1).2 b o (by simp; omega)
        have hk1 := fun b (h : b < w.heap.size + 4) => hb1.block b (by simp; omega)
        have hz1 : w.heap.size + 4 ≤ w1.heap.size := (by have := hb1.size; simp at this; omega)
        go_wp2_with fail
        refine ((HK _).out).mono ?_
        rintro e w2 ⟨rfl, hb2⟩
        have hc2 := fun b o (h : b < w.heap.size + 4) => ((bcell hb2).1 b o (by omega)).trans (hc1 b o h)
        have hf2 := fun b o (h : b < w.heap.size + 4) => ((bcell hb2).2 b o (by omega)).trans (hf1 b o h)
        have hk2 := fun b (h : b < w.heap.size + 4) => (hb2.block b (by omega)).trans (hk1 b h)
        have hz2 : w.heap.size + 4 ≤ w2.heap.size := (by have := hb2.size; omega)
        go_wp2_with fail
        refine ((HI _ (by (repeat (first | exact Below.refl _ _ | assumption | (refine Below.alloc ?_ (by first | omega | (simp; omega) | (simp; done)) _) | (refine Below.setCell ?_ (by first | omega | (simp; omega) | (simp; done)) _) | (refine Below.drew ?_) | (refine belowN ?_ _) | (refine Below.trans ?_ (Below.mono ‹Below _ _ _› (by first | omega | (simp; omega) | (simp; done)))))))).out).mono ?_
        rintro e w3 ⟨rfl, hb3⟩
        have hc3 := fun b o (h : b < w.heap.size + 4) => ((bcell hb3).1 b o (by omega)).trans (hc2 b o h)
        have hf3 := fun b o (h : b < w.heap.size + 4) => ((bcell hb3).2 b o (by omega)).trans (hf2 b o h)
        have hk3 := fun b (h : b < w.heap.size + 4) => (hb3.block b (by omega)).trans (hk2 b h)
        have hz3 : w.heap.size + 4 ≤ w3.heap.size := (by have := hb3.size; omega)
        have l0 : w.heap.size < w3.heap.size := by omega
        have l1 : w.heap.size + 1 < w3.heap.size := by omega
        have l2 : w.heap.size + 1 + 1 < w3.heap.size := by omega
        have l3 : w.heap.size + 1 + 1 + 1 < w3.heap.size := by omega
        obtain ⟨i0, hi, hz0, hz1, hz2⟩ := info_parts infoInt
        obtain ⟨N, hN⟩ := Int.eq_ofNat_of_zero_le (a := s.answers) (by have := V.answers; omega)
        have hN20 : N ≤ 20 := by have := V.answers; omega
        go_wp2_with (at_make; refine wpList_make_blk _ rfl _ _ 28 rfl 3 i0 (.int .i64 0) uInts hi hz0 hz1 rfl .i64 .i64 _ _ N rfl rfl (by first | rfl | rw [hN]) (by first | rfl | rw [hN]) (by rw [hz2]; omega) (by unfold maxLen; omega) ?_; intro W1 gS bS)
        refine Lib.hid ?_
        have hcM := fun b o (h : b < w3.heap.size + 1) => (bcell bS).1 b o (by simp; omega)
        have hfM := fun b o (h : b < w3.heap.size + 1) => (bcell bS).2 b o (by simp; omega)
        have hkM := fun b (h : b < w3.heap.size + 1) => bS.block b (by simp; omega)
        have hzM : w3.heap.size + 1 ≤ W1.heap.size := (by have := bS.size; simp at this; omega)
        have l4 : w.heap.size < w3.heap.size + 1 := by omega
        have l5 : w.heap.size + 1 < w3.heap.size + 1 := by omega
        have l6 : w.heap.size + 1 + 1 < w3.heap.size + 1 := by omega
        have l7 : w.heap.size + 1 + 1 + 1 < w3.heap.size + 1 := by omega
        go_wp2
        have hgl := gS.lt
        simp only [World.size_alloc] at hgl
        have o : CO w.heap.size (w.heap.size + 1) (w.heap.size + 1 + 1) (w.heap.size + 1 + 1 + 1) w3.heap.size (w3.heap.size + 1) W1.heap.size (W1.heap.size + 1) := ⟨by omega, by omega, by omega, by omega, by omega, by omega, by omega⟩
        have hans : s.answers.toNat = N := by omega
        refine wp_world (fun W => W.heap.size = W1.heap.size + 1 ∧ CK s kind sets (.slice A sets.length c) N w (w.heap.size + 1) (w.heap.size + 1 + 1) (w.heap.size + 1 + 1 + 1) w3.heap.size (w3.heap.size + 1) W1.heap.size (W1.heap.size + 1) 0 W) ?_ ?_
        · have f1 : Blk W1 (w.heap.size + 1) #[.int .i64 kind] 3 := (hkM _ (by omega)).trans (Blk.alloc (W := w3) ((hk3 _ (by omega)).trans (((Blk.at_ (by simp)).alloc _).alloc _)) _)
          have f2 : Blk W1 (w.heap.size + 1 + 1) #[.slice A sets.length c] 25 := (hkM _ (by omega)).trans (Blk.alloc (W := w3) ((hk3 _ (by omega)).trans ((Blk.at_ (by simp)).alloc _)) _)
          have f3 : Blk W1 (w.heap.size + 1 + 1 + 1) #[.int .i64 0, .int .i64 0, .int .i64 0, .slice none 0 0] 30 := (hkM _ (by omega)).trans (Blk.alloc (W := w3) ((hk3 _ (by omega)).trans (Blk.at_ (by simp))) _)
          have f4 : Blk W1 w3.heap.size #[.int .i64 s.places, .int .i64 s.signs, .int .i64 s.kinds, .int .i64 s.answers, s.rv, .int .u32 0] 108 := (hkM _ (by omega)).trans (by rw [hN]; exact Blk.at_ rfl)
          have hbl : Below w.heap.size w W1 := by (repeat (first | exact Below.refl _ _ | assumption | (refine Below.alloc ?_ (by first | omega | (simp; omega) | (simp; done)) _) | (refine Below.setCell ?_ (by first | omega | (simp; omega) | (simp; done)) _) | (refine Below.drew ?_) | (refine belowN ?_ _) | (refine Below.trans ?_ (Below.mono ‹Below _ _ _› (by first | omega | (simp; omega) | (simp; done))))))
          refine ⟨by simp, ?_, by simp, (f1.far _ (by simp) _).alloc _, (f2.far _ (by simp) _).alloc _, (f3.set 3 _).alloc _, (f4.far _ (by simp; omega) _).alloc _, ?_, ?_⟩
          · exact (hbl.setCell (by first | omega | (simp; omega) | (simp; done)) _).alloc (by first | omega | (simp; omega) | (simp; done)) _
          · have e : (saidL s sets kind 0).map (Value.int .i64) = List.replicate N (.int .i64 0) := by simp [saidL, cnt, hans, List.map_const']
            rw [e]
            have g5 : Blk W1 (w3.heap.size + 1) (List.replicate N (.int .i64 0)).toArray 3 := by simpa using gS
            exact (g5.far _ (by simp; omega) _).alloc _
          · rw [hN]; exact Blk.at_ (by simp)
        rintro Wl ⟨hzl, h0⟩
        have HR : Hid (countR s kind sets = (cnt (inR s sets) (chartsC s), cnt (silR s sets kind) (chartsC s), cnt (splR s sets kind) (chartsC s), saidL s sets kind (chartsC s), 0)) := (by simp [countR, vs, hc, hk] : countR s kind sets = _)
        have HA := Lib.hid hA
        have HRR := Lib.hid hr
        have HO := Lib.hid ho
        obtain ⟨b1, hb1'⟩ : ∃ b, b = w.heap.size + 1 := ⟨_, rfl⟩
        obtain ⟨b2, hb2'⟩ : ∃ b, b = w.heap.size + 1 + 1 := ⟨_, rfl⟩
        obtain ⟨b3, hb3'⟩ : ∃ b, b = w.heap.size + 1 + 1 + 1 := ⟨_, rfl⟩
        obtain ⟨r, hr'⟩ : ∃ b, b = w3.heap.size := ⟨_, rfl⟩
        obtain ⟨g, hg'⟩ : ∃ b, b = r + 1 := ⟨_, rfl⟩
        obtain ⟨a, ha'⟩ : ∃ b, b = W1.heap.size := ⟨_, rfl⟩
        obtain ⟨z, hz'⟩ : ∃ b, b = a + 1 := ⟨_, rfl⟩
        rw [← hb3', ← hb2', ← hb1', ← hr', ← hg', ← ha', ← hz'] at o h0
        rw [← hb3', ← hb2', ← hb1', ← hr', ← hg', ← ha']
        rw [← ha', ← hz'] at hzl
        have hlow := h0.low.size
        clear hb1' hb2' hb3' hr' hg' ha' hz' hc1 hc2 hc3 hf1 hf2 hf3 hk1 hk2 hk3 hcM hfM hkM bS gS hN hb1 hb2 hb3 HC HI HK hzl
        refine wp_rangeS (lb := #[.pointer (some ⟨a, 0, none⟩)]) rfl ent_all1 (all1_iterB z s s.rv a V.small V.charts) [(10, 1)]
          (fun k W => CK s kind sets (.slice A sets.length c) N w b1 b2 b3 r g a z k W)
          (fun _ _ => False)
          (fun k => CI.stab o hlow) (fun c => Stab.pure _) ?hE ?hD h0 ?hps ?hassign ?hbody ?hdone (fun D c W h => h.elim)
        case hE => exact fun k xs => Stab.ex fun A => Stab.ex fun c => (Stab.pure _).and (SlZ.stab _ _)
        case hD => exact fun k W hi => ⟨⟨by have := hi.size; have := o.h6; omega, by rw [hi.h6.cell]; rfl, by rw [hi.h6.cell]; rfl, by rw [hi.h6.cell]; rfl, by rw [hi.h6.cell]; rfl, by rw [hi.h6.cell]; rfl⟩, hi.size⟩
        case hps => rintro k W xs ⟨A, c, rfl, _⟩; rfl
        case hassign =>
          rintro l k xs W K ⟨A, c, rfl, _⟩ hK
          rw [round21] at hK
          rw [fold2]
          simp only [List.setIfInBounds_toArray, List.set_cons_succ, List.set_cons_zero] at hK ⊢
          gi_wp2
          exact hK
        case hbody =>
          rintro l k xs W hk hck ⟨A', c', rfl, hsz⟩ hl1 hl2
          have hsl := hsz.1
          rw [round21]
          simp only [List.setIfInBounds_toArray, List.set_cons_succ, List.set_cons_zero]
          have hbw := hck.low
          have hln : (chartL s k).length = s.places.toNat := digits_len _ _ _
          have HQ := Lib.hid (asks0 (c := c') V ((HRR.out.below hbw).more hbw.size) kin.1 (by omega) hln rfl (chartL_bd V k) hsl)
          have HHAS := regHas_any A A' c c' sets (chartL s k) W (by rw [hln]; have := V.places; omega) (by rw [hln]; have := hc; simp [regB] at this; omega) HO.out (chartL_bd V k) ((HA.out.below hbw).more hbw.size) hsl
          rw [hln] at HHAS
          have HCK := Lib.hid hck
          by_cases hin : inR s sets k = true
          · rw [show hasB sets (chartL s k) = true from hin] at HHAS
            have HHAS := Lib.hid HHAS
            have hcb := cnt_bd (inR s sets) k
            have hcb1 := cnt_bd (silR s sets kind) k
            have hcb2 := cnt_bd (splR s sets kind) k
            have hk4 : k ≤ 4096 := by have := V.charts; omega
            obtain ⟨x0, hx0⟩ : ∃ x, x = cnt (inR s sets) k := ⟨_, rfl⟩
            rw [← hx0] at hcb
            have HCI0 := Lib.hid (cnt_yes hin)
            rw [← hx0] at HCI0
            unfold CK at hck
            rw [← hx0] at hck
            have HCK2 := Lib.hid hck
            have HSZ := Lib.hid hsz
            have HKD := fun W => Lib.hid (show Calls Try.prog 58 #[.int .u32 ((ansN s 0 kind (chartL s k) : Nat) : Int)] W fun e w' => e = .returned (.int .i64 (kdAt s kind k)) ∧ Below W.heap.size W w' from kind_any (ansOf s 0 kind (chartL s k)) W)
            clear hx0 hsz
            rcases kindOf_cases (ansL s kind k) with hkd | hkd | hkd
            · have hl0 := kindOf_two hkd
              have e1 := Lib.hid (cnt_yes (p := silR s sets kind) (k := k) (by simp [silR, hin, kdAt, hkd]))
              have e2 := Lib.hid (cnt_no (p := splR s sets kind) (k := k) (by simp [splR, hin, kdAt, hkd]))
              have e3 := Lib.hid (saidL_same (s := s) (sets := sets) (kind := kind) (k := k) (fun a => by simp [saidR, hin, hl0]))
              rw [show kdAt s kind k = 2 from hkd] at HKD
              clear hkd hl0 hin
              have c1 := hck.h1.cell 0; have c2 := hck.h2.cell 0
              have d0 := hck.h3.cell 0; have d1 := hck.h3.cell 1; have d2 := hck.h3.cell 2; have d3 := hck.h3.cell 3
              have f0 := hck.h3.free 0
              simp at c1 c2 d0 d1 d2 d3
              gi_wp2
              refine ⟨trivial, (CallsIn.inRound l (callsIn_wide.2 HHAS.out)).mono ?_⟩
              rintro e w' ⟨rfl, rfl⟩
              gi_wp2
              refine wpIn_world (fun W2 => KeepsFrom Wl.heap.size W W2 ∧ CI s kind (.slice A sets.length c) N w b1 b2 b3 r g a z (x0 + 1) (cnt (silR s sets kind) k) (cnt (splR s sets kind) k) (saidL s sets kind k) W2 ∧ SlZ intCell 1 z W2 A' (chartL s k)) ?_ ?_
              · exact ⟨(KeepsOthers.setCell _ _ _).from _, HCK2.out.set0 o _, HSZ.out.keep (fun p h1 h2 => World.cell?_setCell_far _ _ _ _ (by have := o.h3; have := o.h4; have := o.h5; have := o.h6; simp; omega)) (by simp)⟩
              rintro W2 ⟨hkp, hci, hsz2⟩
              have hbw2 := hci.low
              have HQ := Lib.hid (asks0 (c := c') V ((HRR.out.below hbw2).more hbw2.size) kin.1 (by omega) hln rfl (chartL_bd V k) hsz2.1)
              have q0 := hci.h4.cell 0; have q1 := hci.h4.cell 1; have q2 := hci.h4.cell 2; have q3 := hci.h4.cell 3; have q4 := hci.h4.cell 4; have q5 := hci.h4.cell 5
              have p0 := hci.h1.cell 0
              simp at q0 q1 q2 q3 q4 q5 p0
              have HCI := Lib.hid hci; have HKP := Lib.hid hkp
              clear hci hkp hsz2 c1 c2 d0 d1 d2 d3 f0
              (refine wpIn_region_ext (by kernel_rfl) (by kernel_rfl) (by kernel_rfl) ?_; (repeat (go_big_quiet_step((first | (go_at_call 57; with_reducible exact Calls.ext_of (HQ.out.apply _ (Grow.h _))) | (go_at_call 56; with_reducible exact Calls.ext_of (HQ.out.speak _ (Grow.h _))) | (go_at_call 55; with_reducible exact Calls.ext_of (HQ.out.say _ (Grow.h _))))))); with_reducible refine wpQuiet_nil ?_; intro w1 hw1; have hb1 := ext_below hw1; clear hw1)
              gi_wp2
              refine ⟨trivial, (CallsIn.inRound l (callsIn_wide.2 (HKD w1).out)).mono ?_⟩
              rintro e w2 ⟨rfl, hb2⟩
              have hc4 := (HCI.out.below o hb1).below o hb2
              have HC4 := Lib.hid hc4
              have HKP4 := Lib.hid (HKP.out.trans ((keepsFrom_below hb1).trans (keepsFrom_below hb2)))
              have d0 := hc4.h3.cell 0; have d1 := hc4.h3.cell 1; have d2 := hc4.h3.cell 2; have d3 := hc4.h3.cell 3
              have f1 := hc4.h3.free 1; have f2 := hc4.h3.free 2
              simp at d0 d1 d2 d3
              clear q0 q1 q2 q3 q4 q5 p0 hc4 hb1 hb2
              gi_wp2
              exact ⟨HKP4.out.trans ((KeepsOthers.setCell _ _ _).from _), by unfold CK; rw [HCI0.out, e1.out, e2.out, e3.out]; exact HC4.out.set1 o _⟩
            · have e1 := Lib.hid (cnt_no (p := silR s sets kind) (k := k) (by simp [silR, hin, kdAt, hkd]))
              have e2 := Lib.hid (cnt_yes (p := splR s sets kind) (k := k) (by simp [splR, hin, kdAt, hkd]))
              have e3 := Lib.hid (saidL_same (s := s) (sets := sets) (kind := kind) (k := k) (fun a => by
                have hne : ansL s kind k ≠ [a] := fun e => by rw [e] at hkd; simp [kindOf] at hkd
                simp [saidR, hne]))
              rw [show kdAt s kind k = 3 from hkd] at HKD
              clear hkd hin
              have c1 := hck.h1.cell 0; have c2 := hck.h2.cell 0
              have d0 := hck.h3.cell 0; have d1 := hck.h3.cell 1; have d2 := hck.h3.cell 2; have d3 := hck.h3.cell 3
              have f0 := hck.h3.free 0
              simp at c1 c2 d0 d1 d2 d3
              gi_wp2
              refine ⟨trivial, (CallsIn.inRound l (callsIn_wide.2 HHAS.out)).mono ?_⟩
              rintro e w' ⟨rfl, rfl⟩
              gi_wp2
              refine wpIn_world (fun W2 => KeepsFrom Wl.heap.size W W2 ∧ CI s kind (.slice A sets.length c) N w b1 b2 b3 r g a z (x0 + 1) (cnt (silR s sets kind) k) (cnt (splR s sets kind) k) (saidL s sets kind k) W2 ∧ SlZ intCell 1 z W2 A' (chartL s k)) ?_ ?_
              · exact ⟨(KeepsOthers.setCell _ _ _).from _, HCK2.out.set0 o _, HSZ.out.keep (fun p h1 h2 => World.cell?_setCell_far _ _ _ _ (by have := o.h3; have := o.h4; have := o.h5; have := o.h6; simp; omega)) (by simp)⟩
              rintro W2 ⟨hkp, hci, hsz2⟩
              have hbw2 := hci.low
              have HQ := Lib.hid (asks0 (c := c') V ((HRR.out.below hbw2).more hbw2.size) kin.1 (by omega) hln rfl (chartL_bd V k) hsz2.1)
              have q0 := hci.h4.cell 0; have q1 := hci.h4.cell 1; have q2 := hci.h4.cell 2; have q3 := hci.h4.cell 3; have q4 := hci.h4.cell 4; have q5 := hci.h4.cell 5
              have p0 := hci.h1.cell 0
              simp at q0 q1 q2 q3 q4 q5 p0
              have HCI := Lib.hid hci; have HKP := Lib.hid hkp
              clear hci hkp hsz2 c1 c2 d0 d1 d2 d3 f0
              (refine wpIn_region_ext (by kernel_rfl) (by kernel_rfl) (by kernel_rfl) ?_; (repeat (go_big_quiet_step((first | (go_at_call 57; with_reducible exact Calls.ext_of (HQ.out.apply _ (Grow.h _))) | (go_at_call 56; with_reducible exact Calls.ext_of (HQ.out.speak _ (Grow.h _))) | (go_at_call 55; with_reducible exact Calls.ext_of (HQ.out.say _ (Grow.h _))))))); with_reducible refine wpQuiet_nil ?_; intro w1 hw1; have hb1 := ext_below hw1; clear hw1)
              gi_wp2
              refine ⟨trivial, (CallsIn.inRound l (callsIn_wide.2 (HKD w1).out)).mono ?_⟩
              rintro e w2 ⟨rfl, hb2⟩
              have hc4 := (HCI.out.below o hb1).below o hb2
              have HC4 := Lib.hid hc4
              have HKP4 := Lib.hid (HKP.out.trans ((keepsFrom_below hb1).trans (keepsFrom_below hb2)))
              have d0 := hc4.h3.cell 0; have d1 := hc4.h3.cell 1; have d2 := hc4.h3.cell 2; have d3 := hc4.h3.cell 3
              have f1 := hc4.h3.free 1; have f2 := hc4.h3.free 2
              simp at d0 d1 d2 d3
              clear q0 q1 q2 q3 q4 q5 p0 hc4 hb1 hb2
              gi_wp2
              exact ⟨HKP4.out.trans ((KeepsOthers.setCell _ _ _).from _), by unfold CK; rw [HCI0.out, e1.out, e2.out, e3.out]; exact HC4.out.set2 o _⟩
            · obtain ⟨y, hy⟩ := kindOf_one hkd
              have hyp : ansOf s 0 kind (chartL s k) y = true := by
                have : y ∈ ansL s kind k := by rw [hy]; simp
                exact (List.mem_filter.1 this).2
              have hyl := saidTo_lt V _ hyp
              have e1 := Lib.hid (cnt_no (p := silR s sets kind) (k := k) (by simp [silR, hin, kdAt, hkd]))
              have e2 := Lib.hid (cnt_no (p := splR s sets kind) (k := k) (by simp [splR, hin, kdAt, hkd]))
              have e3 := Lib.hid (saidL_next (s := s) (sets := sets) (kind := kind) (k := k) (y := y) (fun a => by rw [Bool.eq_iff_iff]; simp [saidR, hin, hy]; exact eq_comm))
              have e4 := saidL_get (s := s) (sets := sets) (kind := kind) (k := k) hyl
              have hcb3 := cnt_bd (saidR s sets kind y) k
              obtain ⟨v, hv⟩ : ∃ v, v = cnt (saidR s sets kind y) k := ⟨_, rfl⟩
              rw [← hv] at e3 e4 hcb3
              have HLA := fun W => Lib.hid (listA_any (ansN s 0 kind (chartL s k)) (Nat.lt_of_lt_of_le (bset_lt _ _) (by decide)) W)
              rw [show bitsOf (ansN s 0 kind (chartL s k)) = [(y : Int)] by rw [bitsOf_ans, show (List.range 20).filter (ansOf s 0 kind (chartL s k)) = [y] from hy]; rfl] at HLA
              rw [show kdAt s kind k = 1 from hkd] at HKD
              have hyN : y < N := by omega
              have E4 := Lib.hid e4
              have HW := Lib.hid (IntWalk.i64_in (v + 1) ⟨by omega, by omega⟩)
              clear hkd hin hy hyp hyl e4 hv
              have c1 := hck.h1.cell 0; have c2 := hck.h2.cell 0
              have d0 := hck.h3.cell 0; have d1 := hck.h3.cell 1; have d2 := hck.h3.cell 2; have d3 := hck.h3.cell 3
              have f0 := hck.h3.free 0
              simp at c1 c2 d0 d1 d2 d3
              gi_wp2
              refine ⟨trivial, (CallsIn.inRound l (callsIn_wide.2 HHAS.out)).mono ?_⟩
              rintro e w' ⟨rfl, rfl⟩
              gi_wp2
              refine wpIn_world (fun W2 => KeepsFrom Wl.heap.size W W2 ∧ CI s kind (.slice A sets.length c) N w b1 b2 b3 r g a z (x0 + 1) (cnt (silR s sets kind) k) (cnt (splR s sets kind) k) (saidL s sets kind k) W2 ∧ SlZ intCell 1 z W2 A' (chartL s k)) ?_ ?_
              · exact ⟨(KeepsOthers.setCell _ _ _).from _, HCK2.out.set0 o _, HSZ.out.keep (fun p h1 h2 => World.cell?_setCell_far _ _ _ _ (by have := o.h3; have := o.h4; have := o.h5; have := o.h6; simp; omega)) (by simp)⟩
              rintro W2 ⟨hkp, hci, hsz2⟩
              have hbw2 := hci.low
              have HQ := Lib.hid (asks0 (c := c') V ((HRR.out.below hbw2).more hbw2.size) kin.1 (by omega) hln rfl (chartL_bd V k) hsz2.1)
              have q0 := hci.h4.cell 0; have q1 := hci.h4.cell 1; have q2 := hci.h4.cell 2; have q3 := hci.h4.cell 3; have q4 := hci.h4.cell 4; have q5 := hci.h4.cell 5
              have p0 := hci.h1.cell 0
              simp at q0 q1 q2 q3 q4 q5 p0
              have HCI := Lib.hid hci; have HKP := Lib.hid hkp
              clear hci hkp hsz2 c1 c2 d0 d1 d2 d3 f0
              (refine wpIn_region_ext (by kernel_rfl) (by kernel_rfl) (by kernel_rfl) ?_; (repeat (go_big_quiet_step((first | (go_at_call 57; with_reducible exact Calls.ext_of (HQ.out.apply _ (Grow.h _))) | (go_at_call 56; with_reducible exact Calls.ext_of (HQ.out.speak _ (Grow.h _))) | (go_at_call 55; with_reducible exact Calls.ext_of (HQ.out.say _ (Grow.h _))))))); with_reducible refine wpQuiet_nil ?_; intro w1 hw1; have hb1 := ext_below hw1; clear hw1)
              gi_wp2
              refine ⟨trivial, (CallsIn.inRound l (callsIn_wide.2 (HKD w1).out)).mono ?_⟩
              rintro e w2 ⟨rfl, hb2⟩
              have hc4 := (HCI.out.below o hb1).below o hb2
              have HC4 := Lib.hid hc4
              have HKP4 := Lib.hid (HKP.out.trans ((keepsFrom_below hb1).trans (keepsFrom_below hb2)))
              have d0 := hc4.h3.cell 0; have d1 := hc4.h3.cell 1; have d2 := hc4.h3.cell 2; have d3 := hc4.h3.cell 3
              have f1 := hc4.h3.free 1; have f2 := hc4.h3.free 2
              simp at d0 d1 d2 d3
              clear q0 q1 q2 q3 q4 q5 p0 hc4 hb1 hb2
              gi_wp2
              have hmix : Try.prog.follows .mixedOrders = true := by kernel_rfl
              have HC5 := Lib.hid (HC4.out.below o ((Below.refl _ w2).drew))
              clear d0 d1 d2 f1 f2
              gi_region_with_o (refine ⟨trivial, (CallsIn.inRound l (callsIn_wide.2 (HLA _).out)).mono ?_⟩; (rintro e w5 ⟨v5, rfl, hown5, hb5⟩); obtain ⟨gl, cap, rfl⟩ := own_form hown5; have hc5 := HC5.out.below o hb5; have HC6 := Lib.hid hc5; have HB6 := Lib.hid hb5; have t0 := hown5.cellAt 0 (by simp); have t1 := hc5.h3.cell 3; have t2 := hc5.said E4.out; have t3 := hc5.h5.free y; simp [flat] at t0 t1; clear hown5 hb5 hc5)
              all_goals (gi_wp2; exact ⟨((HKP4.out.trans ((KeepsOthers.drew w2).from _)).trans (keepsFrom_below HB6.out)).trans ((KeepsOthers.setCell _ _ _).from _), by unfold CK; rw [HCI0.out, e1.out, e2.out, e3.out, HW.out]; exact HC6.out.setL o _ _⟩)
          · simp only [Bool.not_eq_true] at hin
            rw [show hasB sets (chartL s k) = false from hin] at HHAS
            have HHAS := Lib.hid HHAS
            have c1 := hck.h1.cell 0; have c2 := hck.h2.cell 0
            have d0 := hck.h3.cell 0; have d1 := hck.h3.cell 1; have d2 := hck.h3.cell 2; have d3 := hck.h3.cell 3
            have f0 := hck.h3.free 0
            simp at c1 c2 d0 d1 d2 d3
            gi_wp2
            refine ⟨trivial, (CallsIn.inRound l (callsIn_wide.2 HHAS.out)).mono ?_⟩
            rintro e w' ⟨rfl, rfl⟩
            gi_wp2
            exact ⟨KeepsFrom.refl _ _, ck_out hin HCK.out⟩
        case hdone =>
          rintro D W hck hD hK
          have hlw := hck.low
          have d0 := hck.h3.cell 0; have d1 := hck.h3.cell 1; have d2 := hck.h3.cell 2; have d3 := hck.h3.cell 3
          have f0 := hck.h3.free 0; have f1 := hck.h3.free 1; have f2 := hck.h3.free 2; have f3 := hck.h3.free 3
          simp at d0 d1 d2 d3
          have HCK := Lib.hid hck
          have HKK := Lib.hid hK
          clear hck hK
          go_wp2
          have hK2 := ((((KeepsOthers.setCell W ⟨b3, 0, none⟩ (.int .i64 (cnt (inR s sets) (chartsC s)))).trans (KeepsOthers.setCell _ ⟨b3, 1, none⟩ (.int .i64 (cnt (silR s sets kind) (chartsC s))))).trans (KeepsOthers.setCell _ ⟨b3, 2, none⟩ (.int .i64 (cnt (splR s sets kind) (chartsC s))))).trans (KeepsOthers.setCell _ ⟨b3, 3, none⟩ (.slice (some ⟨g, 0, none⟩) N N))).same D _ HKK.out rfl
          have n2 := ((((HCK.out.h3.set 0 (.int .i64 (cnt (inR s sets) (chartsC s)))).set 1 (.int .i64 (cnt (silR s sets kind) (chartsC s)))).set 2 (.int .i64 (cnt (splR s sets kind) (chartsC s)))).set 3 (.slice (some ⟨g, 0, none⟩) N N)).putObj (o' := .deferred none) hK2 rfl
          have hne : g ≠ b3 := by have := o.h3; have := o.h4; omega
          have n5 := ((((HCK.out.h5.far ⟨b3, 0, none⟩ hne (.int .i64 (cnt (inR s sets) (chartsC s)))).far ⟨b3, 1, none⟩ hne (.int .i64 (cnt (silR s sets kind) (chartsC s)))).far ⟨b3, 2, none⟩ hne (.int .i64 (cnt (splR s sets kind) (chartsC s)))).far ⟨b3, 3, none⟩ hne (.slice (some ⟨g, 0, none⟩) N N)).putObj (o' := .deferred none) hK2 rfl
          have e0 := n2.cell 0; have e1 := n2.cell 1; have e2 := n2.cell 2; have e3 := n2.cell 3
          simp at e0 e1 e2 e3
          refine marks_ret1 (v := .tuple #[.agg #[.int .i64 (cnt (inR s sets) (chartsC s)), .int .i64 (cnt (silR s sets kind) (chartsC s)), .int .i64 (cnt (splR s sets kind) (chartsC s)), .slice (some ⟨g, 0, none⟩) N N], .int .i64 0]) rfl hK2 (by simp [results, Try.results16, go_sem, e0, e1, e2, e3]) ?_
          rw [HR.out]
          have hb3 : w.heap.size ≤ b3 := by have := o.h0; have := o.h1; have := o.h2; omega
          exact ⟨some ⟨g, 0, none⟩, N, by simp only [saidL_len, hans], sl_of_blk n5, below_putObj ((((HCK.out.low.setCell hb3 _).setCell hb3 _).setCell hb3 _).setCell hb3 _) (by omega) hK2 _⟩
      · simp only [Bool.not_eq_true] at hc
        rw [hc] at HI
        have HR : Hid (countR s kind sets = (0, 0, 0, [], 4)) := (by simp [countR, vs, hc, hk] : countR s kind sets = (0, 0, 0, [], 4))
        go_enter Try.func16, Try.ntmps16
        go_wp2_with fail
        refine ((HC _ (by (repeat (first | exact Below.refl _ _ | assumption | (refine Below.alloc ?_ (by first | omega | (simp; omega) | (simp; done)) _) | (refine Below.setCell ?_ (by first | omega | (simp; omega) | (simp; done)) _) | (refine Below.drew ?_) | (refine belowN ?_ _) | (refine Below.trans ?_ (Below.mono ‹Below _ _ _› (by first | omega | (simp; omega) | (simp; done)))))))).out).mono ?_
        rintro e w1 ⟨rfl, hb1⟩
        have hc1 := fun b o (h : b < w.heap.size + 4) => (bcell hb1).1 b o (by simp; omega)
        have hf1 := fun b o (h : b < w.heap.size + 4) => (bcell hb1).2 b o (by simp; omega)
        have hk1 := fun b (h : b < w.heap.size + 4) => hb1.block b (by simp; omega)
        have hz1 : w.heap.size + 4 ≤ w1.heap.size := (by have := hb1.size; simp at this; omega)
        go_wp2_with fail
        refine ((HK _).out).mono ?_
        rintro e w2 ⟨rfl, hb2⟩
        have hc2 := fun b o (h : b < w.heap.size + 4) => ((bcell hb2).1 b o (by omega)).trans (hc1 b o h)
        have hf2 := fun b o (h : b < w.heap.size + 4) => ((bcell hb2).2 b o (by omega)).trans (hf1 b o h)
        have hk2 := fun b (h : b < w.heap.size + 4) => (hb2.block b (by omega)).trans (hk1 b h)
        have hz2 : w.heap.size + 4 ≤ w2.heap.size := (by have := hb2.size; omega)
        go_wp2_with fail
        refine ((HI _ (by (repeat (first | exact Below.refl _ _ | assumption | (refine Below.alloc ?_ (by first | omega | (simp; omega) | (simp; done)) _) | (refine Below.setCell ?_ (by first | omega | (simp; omega) | (simp; done)) _) | (refine Below.drew ?_) | (refine belowN ?_ _) | (refine Below.trans ?_ (Below.mono ‹Below _ _ _› (by first | omega | (simp; omega) | (simp; done)))))))).out).mono ?_
        rintro e w3 ⟨rfl, hb3⟩
        have hc3 := fun b o (h : b < w.heap.size + 4) => ((bcell hb3).1 b o (by omega)).trans (hc2 b o h)
        have hf3 := fun b o (h : b < w.heap.size + 4) => ((bcell hb3).2 b o (by omega)).trans (hf2 b o h)
        have hk3 := fun b (h : b < w.heap.size + 4) => (hb3.block b (by omega)).trans (hk2 b h)
        have hz3 : w.heap.size + 4 ≤ w3.heap.size := (by have := hb3.size; omega)
        go_wp2
        refine bodyPost_ret (v := .tuple #[.agg #[.int .i64 0, .int .i64 0, .int .i64 0, .slice none 0 0], .int .i64 4]) (by simp [results, Try.results16, go_sem, hc3]) rfl ?_
        rw [HR.out]
        exact retCount_nil (by (repeat (first | exact Below.refl _ _ | assumption | (refine Below.alloc ?_ (by first | omega | (simp; omega) | (simp; done)) _) | (refine Below.setCell ?_ (by first | omega | (simp; omega) | (simp; done)) _) | (refine Below.drew ?_) | (refine belowN ?_ _) | (refine Below.trans ?_ (Below.mono ‹Below _ _ _› (by first | omega | (simp; omega) | (simp; done)))))))
    · simp only [Bool.not_eq_true] at hk
      have HR : Hid (countR s kind sets = (0, 0, 0, [], 7)) := (by simp [countR, vs, hk] : countR s kind sets = (0, 0, 0, [], 7))
      rw [hk] at HK
      go_enter Try.func16, Try.ntmps16
      go_wp2_with fail
      refine ((HC _ (by (repeat (first | exact Below.refl _ _ | assumption | (refine Below.alloc ?_ (by first | omega | (simp; omega) | (simp; done)) _) | (refine Below.setCell ?_ (by first | omega | (simp; omega) | (simp; done)) _) | (refine Below.drew ?_) | (refine belowN ?_ _) | (refine Below.trans ?_ (Below.mono ‹Below _ _ _› (by first | omega | (simp; omega) | (simp; done)))))))).out).mono ?_
      rintro e w1 ⟨rfl, hb1⟩
      have hc1 := fun b o (h : b < w.heap.size + 4) => (bcell hb1).1 b o (by simp; omega)
      have hf1 := fun b o (h : b < w.heap.size + 4) => (bcell hb1).2 b o (by simp; omega)
      have hk1 := fun b (h : b < w.heap.size + 4) => hb1.block b (by simp; omega)
      have hz1 : w.heap.size + 4 ≤ w1.heap.size := (by have := hb1.size; simp at this; omega)
      go_wp2_with fail
      refine ((HK _).out).mono ?_
      rintro e w2 ⟨rfl, hb2⟩
      have hc2 := fun b o (h : b < w.heap.size + 4) => ((bcell hb2).1 b o (by omega)).trans (hc1 b o h)
      have hf2 := fun b o (h : b < w.heap.size + 4) => ((bcell hb2).2 b o (by omega)).trans (hf1 b o h)
      have hk2 := fun b (h : b < w.heap.size + 4) => (hb2.block b (by omega)).trans (hk1 b h)
      have hz2 : w.heap.size + 4 ≤ w2.heap.size := (by have := hb2.size; omega)
      go_wp2
      refine bodyPost_ret (v := .tuple #[.agg #[.int .i64 0, .int .i64 0, .int .i64 0, .slice none 0 0], .int .i64 7]) (by simp [results, Try.results16, go_sem, hc2]) rfl ?_
      rw [HR.out]
      exact retCount_nil (by (repeat (first | exact Below.refl _ _ | assumption | (refine Below.alloc ?_ (by first | omega | (simp; omega) | (simp; done)) _) | (refine Below.setCell ?_ (by first | omega | (simp; omega) | (simp; done)) _) | (refine Below.drew ?_) | (refine belowN ?_ _) | (refine Below.trans ?_ (Below.mono ‹Below _ _ _› (by first | omega | (simp; omega) | (simp; done)))))))
  · simp only [Bool.not_eq_true] at vs
    have HC := fun W (hW : Below w.heap.size w W) => Lib.hid (chk_any vs W ((hr.below hW).more hW.size))
    have HR : Hid (countR s kind sets = (0, 0, 0, [], 2)) := (by simp [countR, vs] : countR s kind sets = (0, 0, 0, [], 2))
    go_enter Try.func16, Try.ntmps16
    go_wp2_with fail
    refine ((HC _ (by (repeat (first | exact Below.refl _ _ | assumption | (refine Below.alloc ?_ (by first | omega | (simp; omega) | (simp; done)) _) | (refine Below.setCell ?_ (by first | omega | (simp; omega) | (simp; done)) _) | (refine Below.drew ?_) | (refine belowN ?_ _) | (refine Below.trans ?_ (Below.mono ‹Below _ _ _› (by first | omega | (simp; omega) | (simp; done)))))))).out).mono ?_
    rintro e w1 ⟨rfl, hb1⟩
    have hc1 := fun b o (h : b < w.heap.size + 4) => (bcell hb1).1 b o (by simp; omega)
    have hf1 := fun b o (h : b < w.heap.size + 4) => (bcell hb1).2 b o (by simp; omega)
    have hk1 := fun b (h : b < w.heap.size + 4) => hb1.block b (by simp; omega)
    have hz1 : w.heap.size + 4 ≤ w1.heap.size := (by have := hb1.size; simp at this; omega)
    go_wp2
    refine bodyPost_ret (v := .tuple #[.agg #[.int .i64 0, .int .i64 0, .int .i64 0, .slice none 0 0], .int .i64 2]) (by simp [results, Try.results16, go_sem, hc1]) rfl ?_
    rw [HR.out]
    exact retCount_nil (by (repeat (first | exact Below.refl _ _ | assumption | (refine Below.alloc ?_ (by first | omega | (simp; omega) | (simp; done)) _) | (refine Below.setCell ?_ (by first | omega | (simp; omega) | (simp; done)) _) | (refine Below.drew ?_) | (refine belowN ?_ _) | (refine Below.trans ?_ (Below.mono ‹Below _ _ _› (by first | omega | (simp; omega) | (simp; done)))))))
end Go.Proofs.Ytidlmbajpbbilaa

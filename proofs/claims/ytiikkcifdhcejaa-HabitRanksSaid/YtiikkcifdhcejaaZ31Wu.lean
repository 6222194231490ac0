/- habit: slices.Chunk, as an iterator. -/
import Derived.Test.YtiikkcifdhcejaaWt
import Derived.Test.YtiikkcifdhcejaaZ03Pd
import Derived.Test.YtiikkcifdhcejaaZ10Wf
import Derived.Test.YtiikkcifdhcejaaUa
namespace Go.Proofs.Ytiikkcifdhcejaa
open Go.RowKit
attribute [local go_sem] Oper.semAt_some

theorem ints_cut (b o len c i j : Nat) (W : World) (h : i < j) (hc : j ≤ c) : (Instr.slice 30 (.slice (some ⟨b, o, none⟩) len c) (some (.int .i64 (i : Int))) (some (.int .i64 (j : Int))) (some (.int .i64 (j : Int)))).run Try.prog W = .ok (.slice (some ⟨b, o + i, none⟩) (j - i) (j - i)) W := by
  rw [run_slice_lhm (w := W) 30 (some ⟨b, o, none⟩) len c (by kernel_rfl) .i64 .i64 .i64 (i : Int) (j : Int) (j : Int) (by omega) (by omega) (by omega) (by omega)]
  have hs : (sizeOf (Try.prog.elem 30)).run Try.prog W = .ok 1 W := by kernel_rfl
  rw [hs, Int.toNat_natCast, Int.toNat_natCast]
  show Result.ok (sliced (some ⟨b, o, none⟩) i j j 1) W = _
  unfold sliced
  rw [if_neg (by omega)]
  simp [Go.WideShapes.add_plain]
theorem Sl.chunk {W : World} {B b o : Nat} {l : List Int} (h : Sl intCell 1 W B (some ⟨b, o, none⟩) l) (a k : Nat) : Sl intCell 1 W B (some ⟨b, o + k * a, none⟩) (chunk l a k) := by
  refine ⟨by rw [flat_int]; simp, fun hn => ?_⟩
  have hn' : 0 < l.length := by
    unfold Go.Proofs.Ytiikkcifdhcejaa.chunk at hn
    rw [List.length_take, List.length_drop] at hn
    omega
  obtain ⟨b', o', e, hb, hc⟩ := h.2 hn'
  cases e
  refine ⟨b, _, rfl, hb, fun j u hu => ?_⟩
  rw [Nat.add_assoc]
  refine hc _ _ ?_
  rw [flat_int] at hu ⊢
  unfold Go.Proofs.Ytiikkcifdhcejaa.chunk at hu
  rw [List.getElem?_map, List.getElem?_take] at hu
  split at hu
  · rw [List.getElem?_drop] at hu
    rw [List.getElem?_map]
    exact hu
  · simp at hu
/-- the rounds' lists -/
def EncChunk (l : List Int) (a k : Nat) (W : World) (xs : Array Value) : Prop := ∃ A', xs = #[.slice A' (chunk l a k).length (chunk l a k).length] ∧ Sl intCell 1 W W.heap.size A' (chunk l a k)
theorem ent_chunk1 : Ent 93 := ent_of Try.func93 (by kernel_rfl) rfl
theorem chunk_len (l : List Int) (a k : Nat) : (chunk l a k).length = min a (l.length - k * a) := by unfold chunk; rw [List.length_take, List.length_drop]
set_option maxRecDepth 100000 in
set_option maxHeartbeats 4000000 in
theorem chunk1_iter (A : Option Addr) (c : Nat) (l : List Int) (a K b1 b2 : Nat) (hl : l.length ≤ 1000000) (ha : 1 ≤ a) (ha4 : a ≤ 1000000) (hc : l.length ≤ c) (hK : ∀ k, k < K ↔ k * a < l.length) :
    Iter 93 #[.pointer (some ⟨b1, 0, none⟩), .pointer (some ⟨b2, 0, none⟩)] (fun W => Blk W b1 #[.slice A l.length c] 30 ∧ Blk W b2 #[.int .i64 a] 3 ∧ Sl intCell 1 W W.heap.size A l) (EncChunk l a) K := by
  intro Y J Jx W hJs hJxs hJD hY h0
  have HJs := Lib.hid hJs; have HJD := Lib.hid hJD; have HY := Lib.hid hY
  have H0 := Lib.hid h0
  have HK := Lib.hid hK
  clear hJs hJD hY h0 hJxs hK
  rw [← callsIn_wide (n := 2)]
  refine callsIn_of_wp Try.func93 rfl trivial ?_ rfl
  simp only [Try.ntmps93, List.size_toArray, List.length_cons, List.length_nil, Nat.reduceAdd, Nat.reduceSub, Array.replicate_succ, Array.replicate_zero, List.push_toArray, List.append_toArray, List.nil_append, List.cons_append]
  gi_wp2
  gi_loopw [4] (fun i wr => ∃ k : Nat, k ≤ K ∧ i = .int .i64 ((k * a : Nat) : Int) ∧ Hid (J k wr)) (fun i _ => l.length + a - (intOf i).toNat)
  case atStart => exact ⟨0, by omega, by simp, H0⟩
  case round =>
    obtain ⟨k, hk, rfl, hj⟩ := hrel
    obtain ⟨g1, g2, hsl⟩ := HJD.out _ wr hj.out
    have z1 := g1.cell 0; have z2 := g2.cell 0
    simp at z1 z2
    obtain ⟨q, hq⟩ : ∃ q, q = k * a := ⟨_, rfl⟩
    rw [← hq]
    by_cases hlt : q < l.length
    · have hkK : k < K := (HK.out k).2 (by omega)
      obtain ⟨b, o, hA, hb, hcell⟩ := hsl.2 (by omega)
      subst hA
      have hfrom := ints_slice (some ⟨b, o, none⟩) l.length c q wr (by omega)
      obtain ⟨e, he⟩ : ∃ e, e = min a (l.length - q) := ⟨_, rfl⟩
      have he' : min (a : Int) ((l.length - q : Nat) : Int) = (e : Int) := by omega
      have HE := Lib.hid he
      have HQ := Lib.hid hq
      have q0 : (0 : Int) ≤ (q : Int) := by omega
      have q1 : (q : Int) < (l.length : Int) := by omega
      have hjd := HJs.out k wr wr.drew hj.out (Below.refl _ _).drew
      clear hsl g1 g2 hq he hcell hj
      gi_wp2
      gi_region
      clear z1 z2 hfrom he'
      revert hjd
      generalize wr.drew = W9
      intro hjd
      obtain ⟨g1, g2, hsl⟩ := HJD.out _ W9 hjd
      have z1 := g1.cell 0; have z2 := g2.cell 0
      simp at z1 z2
      have hch := hsl.chunk a k
      rw [← HQ.out] at hch
      have hlen := chunk_len l a k
      rw [← HQ.out, ← HE.out] at hlen
      have he1 : 1 ≤ e := by rw [HE.out]; omega
      have he2 : q + e ≤ l.length := by rw [HE.out]; omega
      have hcut := ints_cut b o l.length c q (q + e) W9 (by omega) (by omega)
      rw [Nat.add_sub_cancel_left] at hcut
      obtain ⟨t, ht⟩ : ∃ t, t = q + e := ⟨_, rfl⟩
      rw [← ht] at hcut
      have w1 : IntKind.i64.wrap ((q : Int) + (e : Int)) = (t : Int) := by
        rw [ht, ← Int.natCast_add]
        exact IntWalk.i64_in _ ⟨by omega, by omega⟩
      obtain ⟨fn, tmps, assign, body, hy, hR⟩ := HY.out k W9 #[.slice (some ⟨b, o + q, none⟩) e e] hkK hjd ⟨_, by rw [hlen], hch⟩
      have HRR := Lib.hid hR
      have hka : q + a = (k + 1) * a := by rw [HQ.out, Nat.add_mul, Nat.one_mul]
      have HKA := Lib.hid hka
      clear hR hjd hch hlen hsl g1 g2 ht hka
      gi_wp2
      refine HRR.out.mono ?_
      rintro e3 W3 (⟨rfl, hJ3⟩ | ⟨rfl, hJx3⟩)
      · obtain ⟨g1, g2, _⟩ := HJD.out _ W3 hJ3
        have z2 := g2.cell 0
        simp at z2
        have HJ3 := Lib.hid hJ3
        have w2 : IntKind.i64.wrap ((q : Int) + (a : Int)) = (((k + 1) * a : Nat) : Int) := by
          rw [← HKA.out]
          rw [← Int.natCast_add]
          exact IntWalk.i64_in _ ⟨by omega, by omega⟩
        obtain ⟨q2, hq2⟩ : ∃ q2, q2 = (k + 1) * a := ⟨_, rfl⟩
        rw [← hq2] at w2 HKA
        have HQ2 := Lib.hid hq2
        clear hJ3 g1 g2 hq2
        gi_wp2
        go_roundw
        case rel => exact ⟨k + 1, hkK, by rw [HQ2.out], HJ3⟩
        case measure => have := HKA.out; simp [intOf]; omega
      · have HJ3 := Lib.hid hJx3
        clear hJx3
        gi_wp2
        refine bodyPost_ret (results_none rfl _ _ _) rfl ?_
        exact ⟨⟨_, rfl⟩, .inr HJ3.out⟩
    · obtain rfl : k = K := by
        have : ¬ k < K := fun h => by have := (HK.out k).1 h; omega
        omega
      have hjn := hj
      have q1 : decide ((q : Int) < (l.length : Int)) = false := by simp; omega
      gi_wp2
      go_end0
      exact ⟨⟨_, rfl⟩, .inl hjn.out⟩
end Go.Proofs.Ytiikkcifdhcejaa
namespace Go.Proofs.Ytiikkcifdhcejaa
open Go.RowKit
attribute [local go_sem] Oper.semAt_some

/-- how many rounds there are -/
def casts (n a : Nat) : Nat := (n + a - 1) / a
theorem casts_lt {n a k : Nat} (ha : 1 ≤ a) : k < casts n a ↔ k * a < n := by
  have h : casts n a < k + 1 ↔ n + a - 1 < (k + 1) * a := by unfold casts; exact Nat.div_lt_iff_lt_mul (by omega)
  rw [Nat.add_mul, Nat.one_mul] at h
  omega
/-- the greater ones of two lists, as far as place j -/
def mrgL (a b : List Int) (j : Nat) : List Int := (List.zipWith max a b).take j ++ a.drop j
theorem mrgL_len {a b : List Int} (h : a.length = b.length) {j : Nat} (hj : j ≤ a.length) : (mrgL a b j).length = a.length := by
  unfold mrgL
  rw [List.length_append, List.length_take, List.length_drop, List.length_zipWith]; omega
theorem mrgL_zero (a b : List Int) : mrgL a b 0 = a := by simp [mrgL]
theorem mrgL_end {a b : List Int} (h : a.length = b.length) : mrgL a b a.length = List.zipWith max a b := by
  unfold mrgL
  rw [List.drop_length, List.append_nil, List.take_of_length_le (by rw [List.length_zipWith]; omega)]
theorem mrgL_get {a b : List Int} (h : a.length = b.length) {j : Nat} (hj : j < a.length) : (mrgL a b j).getD j 0 = a.getD j 0 := by
  unfold mrgL
  have e : ((List.zipWith max a b).take j).length = j := by rw [List.length_take, List.length_zipWith]; omega
  rw [List.getD_eq_getElem?_getD, List.getElem?_append_right (by omega), e, Nat.sub_self, List.getElem?_drop, Nat.add_zero, ← List.getD_eq_getElem?_getD]
theorem mrgL_succ {a b : List Int} (h : a.length = b.length) {j : Nat} (hj : j < a.length) : mrgL a b (j + 1) = (mrgL a b j).set j (max (a.getD j 0) (b.getD j 0)) := by
  have ha : a.getD j 0 = a[j] := by simp [hj]
  have hb : b.getD j 0 = b[j]'(by omega) := by simp [show j < b.length by omega]
  have e : ((List.zipWith max a b).take j).length = j := by rw [List.length_take, List.length_zipWith]; omega
  have hz : j < (List.zipWith max a b).length := by rw [List.length_zipWith]; omega
  unfold mrgL
  rw [List.set_append_right _ _ (by omega), e, Nat.sub_self, List.drop_eq_getElem_cons hj, List.set_cons_zero, List.take_succ_eq_append_getElem hz, List.getElem_zipWith, ha, hb, List.append_assoc]
  rfl
theorem Arr.len2 {W : World} {b : Nat} {l : List Int} (h : Arr W b l) : b < W.heap.size := Blk.lt h
theorem chunk_any (A : Option Addr) (len c a : Nat) (w : World) (ha : 1 ≤ a) :
    Calls Try.prog 66 #[.slice A len c, .int .i64 (a : Int)] w fun e w' => ∃ b1 b2 : Nat, e = .returned (.func (.func 93) #[] #[.pointer (some ⟨b1, 0, none⟩), .pointer (some ⟨b2, 0, none⟩)]) ∧ Blk w' b1 #[.slice A len c] 30 ∧ Blk w' b2 #[.int .i64 a] 3 ∧ w.heap.size ≤ b1 ∧ w.heap.size ≤ b2 ∧ Below w.heap.size w w' := by
  have d : decide ((a : Int) < 1) = false := by simp; omega
  go_enter Try.func66, Try.ntmps66
  go_wp2
  go_ret
  refine ⟨_, _, rfl, ?_, ?_, ?_, ?_, by (repeat (first | exact Below.refl _ _ | assumption | (refine Below.alloc ?_ (by first | omega | (simp; omega) | (simp; done)) _) | (refine Below.setCell ?_ (by first | omega | (simp; omega) | (simp; done)) _) | (refine Below.drew ?_) | (refine belowN ?_ _) | (refine Below.trans ?_ (Below.mono ‹Below _ _ _› (by first | omega | (simp; omega) | (simp; done))))))⟩
  · exact (Blk.new w _ _).alloc _
  · exact Blk.at_ (by simp)
  · exact Nat.le_refl _
  · simp
/-- the error of Need -/
def needE (l : List Int) (n a : Int) : Int := if n < 1 ∨ 32 < n ∨ a < 1 ∨ 400 < a then 3 else inE n l
def RetNeed (l : List Int) (n a : Int) (w : World) (e : Ending) (w' : World) : Prop :=
  if needE l n a = 0 then ∃ A, e = .returned (.tuple #[.slice (some ⟨A, 0, none⟩) n.toNat n.toNat, .int .i64 0]) ∧ Arr w' A (needF l n.toNat a.toNat (casts l.length a.toNat)) ∧ w.heap.size ≤ A ∧ Below w.heap.size w w'
  else e = .returned (.tuple #[.slice none 0 0, .int .i64 (needE l n a)]) ∧ Below w.heap.size w w'
/-- what stands between two rounds -/
structure NdI (w : World) (l : List Int) (N a : Nat) (A : Option Addr) (c nb b1 b2 k : Nat) (W : World) : Prop where
  low : Below w.heap.size w W
  k0 : Blk W w.heap.size #[.int .i64 N] 3
  k9 : Blk W (nb + 1) #[.slice (some ⟨nb, 0, none⟩) N N] 30
  arr : Arr W nb (needF l N a k)
  kb1 : Blk W b1 #[.slice A l.length c] 30
  kb2 : Blk W b2 #[.int .i64 a] 3
theorem NdI.stab {w : World} {l : List Int} {N a : Nat} {A : Option Addr} {c nb b1 b2 B : Nat} (hB : w.heap.size ≤ B) (k : Nat) : Stab B (NdI w l N a A c nb b1 b2 k) := fun W W' row h hg hr =>
  ⟨Stab.low hB w (Nat.le_refl _) W W' row h.low hg hr, Stab.blk _ _ _ _ W W' row h.k0 hg hr, Stab.blk _ _ _ _ W W' row h.k9 hg hr, Stab.blk _ _ _ _ W W' row h.arr hg hr, Stab.blk _ _ _ _ W W' row h.kb1 hg hr, Stab.blk _ _ _ _ W W' row h.kb2 hg hr⟩
theorem NdI.grow {w W W' : World} {l : List Int} {N a : Nat} {A : Option Addr} {c nb b1 b2 k : Nat} (h : NdI w l N a A c nb b1 b2 k W) (hb : Below W.heap.size W W') : NdI w l N a A c nb b1 b2 k W' := ⟨bl2 h.low hb, h.k0.below hb h.k0.lt, h.k9.below hb h.k9.lt, Blk.below h.arr hb h.arr.len2, h.kb1.below hb h.kb1.lt, h.kb2.below hb h.kb2.lt⟩
structure NdK (w : World) (l : List Int) (N a : Nat) (A : Option Addr) (c nb b1 b2 : Nat) (W : World) : Prop where
  low : Below w.heap.size w W
  k0 : Blk W w.heap.size #[.int .i64 N] 3
  k9 : Blk W (nb + 1) #[.slice (some ⟨nb, 0, none⟩) N N] 30
  kb1 : Blk W b1 #[.slice A l.length c] 30
  kb2 : Blk W b2 #[.int .i64 a] 3
theorem round1 (T : Array Value) (p r : Tmp) (x : Value) : roundAct T #[p] [(r, 0)] #[x] = { tmps := (T.setIfInBounds p x).setIfInBounds r x, defers := [] } := by simp [roundAct]
set_option maxRecDepth 100000 in
set_option maxHeartbeats 4000000 in
theorem need_any (A : Option Addr) (c : Nat) (l : List Int) (n a : Int) (w : World) (hl : l.length ≤ 1000000) (hc : l.length ≤ c) (hr : Sl intCell 1 w w.heap.size A l) :
    Calls Try.prog 29 #[.slice A l.length c, .int .i64 n, .int .i64 a] w (RetNeed l n a w) := by
  have HW := Lib.hid (fun W (hW : Below w.heap.size w W) => within_any A c l n W hl ((hr.below hW).more hW.size))
  have HR := Lib.hid hr
  clear hr
  by_cases h1 : n < 1
  · have q1 : decide (n < 1) = true := by simp; omega
    have HE : Hid (needE l n a = 3) := (by show _ = _; unfold needE; rw [if_pos (.inl h1)] : _)
    refine calls_marks Try.func29 rfl ?_
    simp only [Try.ntmps29, List.size_toArray, List.length_cons, List.length_nil, Nat.reduceAdd, Nat.reduceSub, Array.replicate_succ, Array.replicate_zero, List.push_toArray, List.append_toArray, List.nil_append, List.cons_append]
    go_wp2
    refine marks_ret0 (v := .tuple #[.slice none 0 0, .int .i64 3]) rfl (by simp [results, Try.results29, go_sem]) ?_
    unfold RetNeed
    rw [HE.out, if_neg (by decide)]
    exact ⟨rfl, by (repeat (first | exact Below.refl _ _ | assumption | (refine Below.alloc ?_ (by first | omega | (simp; omega) | (simp; done)) _) | (refine Below.setCell ?_ (by first | omega | (simp; omega) | (simp; done)) _) | (refine Below.drew ?_) | (refine belowN ?_ _) | (refine Below.trans ?_ (Below.mono ‹Below _ _ _› (by first | omega | (simp; omega) | (simp; done))))))⟩
  have q1 : decide (n < 1) = false := by simp; omega
  by_cases h2 : 32 < n
  · have q2 : decide (32 < n) = true := by simp; omega
    have HE : Hid (needE l n a = 3) := (by show _ = _; unfold needE; rw [if_pos (.inr (.inl h2))] : _)
    refine calls_marks Try.func29 rfl ?_
    simp only [Try.ntmps29, List.size_toArray, List.length_cons, List.length_nil, Nat.reduceAdd, Nat.reduceSub, Array.replicate_succ, Array.replicate_zero, List.push_toArray, List.append_toArray, List.nil_append, List.cons_append]
    go_wp2
    refine marks_ret0 (v := .tuple #[.slice none 0 0, .int .i64 3]) rfl (by simp [results, Try.results29, go_sem]) ?_
    unfold RetNeed
    rw [HE.out, if_neg (by decide)]
    exact ⟨rfl, by (repeat (first | exact Below.refl _ _ | assumption | (refine Below.alloc ?_ (by first | omega | (simp; omega) | (simp; done)) _) | (refine Below.setCell ?_ (by first | omega | (simp; omega) | (simp; done)) _) | (refine Below.drew ?_) | (refine belowN ?_ _) | (refine Below.trans ?_ (Below.mono ‹Below _ _ _› (by first | omega | (simp; omega) | (simp; done))))))⟩
  have q2 : decide (32 < n) = false := by simp; omega
  by_cases h3 : a < 1
  · have q3 : decide (a < 1) = true := by simp; omega
    have HE : Hid (needE l n a = 3) := (by show _ = _; unfold needE; rw [if_pos (.inr (.inr (.inl h3)))] : _)
    refine calls_marks Try.func29 rfl ?_
    simp only [Try.ntmps29, List.size_toArray, List.length_cons, List.length_nil, Nat.reduceAdd, Nat.reduceSub, Array.replicate_succ, Array.replicate_zero, List.push_toArray, List.append_toArray, List.nil_append, List.cons_append]
    go_wp2
    refine marks_ret0 (v := .tuple #[.slice none 0 0, .int .i64 3]) rfl (by simp [results, Try.results29, go_sem]) ?_
    unfold RetNeed
    rw [HE.out, if_neg (by decide)]
    exact ⟨rfl, by (repeat (first | exact Below.refl _ _ | assumption | (refine Below.alloc ?_ (by first | omega | (simp; omega) | (simp; done)) _) | (refine Below.setCell ?_ (by first | omega | (simp; omega) | (simp; done)) _) | (refine Below.drew ?_) | (refine belowN ?_ _) | (refine Below.trans ?_ (Below.mono ‹Below _ _ _› (by first | omega | (simp; omega) | (simp; done))))))⟩
  have q3 : decide (a < 1) = false := by simp; omega
  by_cases h4 : 400 < a
  · have q4 : decide (400 < a) = true := by simp; omega
    have HE : Hid (needE l n a = 3) := (by show _ = _; unfold needE; rw [if_pos (.inr (.inr (.inr h4)))] : _)
    refine calls_marks Try.func29 rfl ?_
    simp only [Try.ntmps29, List.size_toArray, List.length_cons, List.length_nil, Nat.reduceAdd, Nat.reduceSub, Array.replicate_succ, Array.replicate_zero, List.push_toArray, List.append_toArray, List.nil_append, List.cons_append]
    go_wp2
    refine marks_ret0 (v := .tuple #[.slice none 0 0, .int .i64 3]) rfl (by simp [results, Try.results29, go_sem]) ?_
    unfold RetNeed
    rw [HE.out, if_neg (by decide)]
    exact ⟨rfl, by (repeat (first | exact Below.refl _ _ | assumption | (refine Below.alloc ?_ (by first | omega | (simp; omega) | (simp; done)) _) | (refine Below.setCell ?_ (by first | omega | (simp; omega) | (simp; done)) _) | (refine Below.drew ?_) | (refine belowN ?_ _) | (refine Below.trans ?_ (Below.mono ‹Below _ _ _› (by first | omega | (simp; omega) | (simp; done))))))⟩
  have q4 : decide (400 < a) = false := by simp; omega
  obtain ⟨N, rfl⟩ : ∃ N : Nat, n = (N : Int) := ⟨n.toNat, by omega⟩
  obtain ⟨a, rfl⟩ : ∃ N : Nat, a = (N : Int) := ⟨a.toNat, by omega⟩
  obtain ⟨er, her⟩ : ∃ e, e = inE (N : Int) l := ⟨_, rfl⟩
  rw [← her] at HW
  have HT : Hid (needE l (N : Int) a = er) := (by show _ = _; unfold needE; rw [if_neg (by omega)]; exact her.symm : _)
  by_cases h0 : er = 0
  · subst h0
    have hz := inE_zero her.symm
    have hreg := hz.2 (by omega)
    have hmk := mk_ints N (by omega)
    have HREG := Lib.hid hreg
    have HL4 := Lib.hid hz.1
    have HC := Lib.hid (fun W => chunk_any A l.length c a W (by omega))
    have HIT := Lib.hid (fun b1 b2 => chunk1_iter A c l a (casts l.length a) b1 b2 hl (by omega) (by omega) hc (fun k => casts_lt (by omega)))
    clear her hz hreg
    refine calls_marks Try.func29 rfl ?_
    simp only [Try.ntmps29, List.size_toArray, List.length_cons, List.length_nil, Nat.reduceAdd, Nat.reduceSub, Array.replicate_succ, Array.replicate_zero, List.push_toArray, List.append_toArray, List.nil_append, List.cons_append]
    go_wp2_with (first | (go_at_call 62; refine (HW.out _ (by (repeat (first | exact Below.refl _ _ | assumption | (refine Below.alloc ?_ (by first | omega | (simp; omega) | (simp; done)) _) | (refine Below.setCell ?_ (by first | omega | (simp; omega) | (simp; done)) _) | (refine Below.drew ?_) | (refine belowN ?_ _) | (refine Below.trans ?_ (Below.mono ‹Below _ _ _› (by first | omega | (simp; omega) | (simp; done)))))))).mono ?_; rintro _ w1 ⟨rfl, hb1⟩; refine Hid.out ?_) | fail)
    have g4 : Blk w1 w.heap.size #[.int .i64 N] 3 := (Blk.new w _ _).below hb1 (by simp)
    have hw1 : Below w.heap.size w w1 := bl3 (Below.refl _ _) hb1
    have z4 := g4.cell 0
    simp at z4
    have gl4 := g4.lt
    clear hb1
    refine Lib.hid ?_
    go_upto_region 7 with (first | (simp only [hmk]) | fail)
    obtain ⟨nb, hnb⟩ : ∃ q, q = w1.heap.size := ⟨_, rfl⟩
    rw [← hnb]
    have hwn : w.heap.size < nb := by omega
    refine gen_w (fun W => Below w.heap.size w W ∧ Blk W w.heap.size #[.int .i64 N] 3 ∧ Arr W nb (List.replicate N 0) ∧ Blk W (nb + 1) #[.slice (some ⟨nb, 0, none⟩) N N] 30) ⟨by (repeat (first | exact Below.refl _ _ | assumption | (refine Below.alloc ?_ (by first | omega | (simp; omega) | (simp; done)) _) | (refine Below.setCell ?_ (by first | omega | (simp; omega) | (simp; done)) _) | (refine Below.drew ?_) | (refine belowN ?_ _) | (refine Below.trans ?_ (Below.mono ‹Below _ _ _› (by first | omega | (simp; omega) | (simp; done)))))), (g4.alloc _).alloc _, by unfold Arr; rw [List.map_replicate, List.toArray_replicate]; exact (Blk.at_ (by simp [hnb])).alloc _, Blk.at_ (by simp [hnb])⟩ ?_
    clear z4 gl4 g4 hw1 hnb hmk
    rintro V ⟨hV, g4, gN, g9⟩
    have gl9 := g9.lt
    go_wp2_with (first | (go_at_call 66; refine (HC.out _).mono ?_; rintro _ w2 ⟨b1, b2, rfl, c1, c2, hB1, hB2, hb2⟩; refine Hid.out ?_) | fail)
    have HI0 : Hid (NdI w l N a A c nb b1 b2 0 w2) := Lib.hid ⟨bl2 hV hb2, g4.below hb2 g4.lt, g9.below hb2 g9.lt, Blk.below gN hb2 (Blk.lt gN), c1, c2⟩
    have z2 := hb2.size
    have hb12 : nb + 1 < b1 ∧ nb + 1 < b2 := by omega
    have hl1 := c1.lt; have hl2 := c2.lt
    have HV2 := Lib.hid (bl2 hV hb2)
    clear g4 gN g9 c1 c2 hb2 hV gl9
    refine Lib.hid ?_
    go_wp2_with fail
    refine wp_rangeS (lb := #[.pointer (some ⟨b1, 0, none⟩), .pointer (some ⟨b2, 0, none⟩)]) rfl ent_chunk1 (HIT.out b1 b2) [(10, 0)]
      (fun k W => NdI w l N a A c nb b1 b2 k W) (fun _ _ => False)
      (fun k => NdI.stab HV2.out.size k) (fun c => Stab.pure _) ?hE ?hD HI0.out ?hps ?hassign ?hbody ?hdone (fun D c W h => h.elim)
    case hE => exact fun k xs => Stab.ex fun A => (Stab.pure _).and (Stab.sl _ _)
    case hD => exact fun k W hi => ⟨hi.kb1, hi.kb2, (HR.out.below hi.low).more hi.low.size⟩
    case hps => rintro k W xs ⟨A', rfl, _⟩; rfl
    case hassign =>
      rintro l0 k xs W K ⟨A', rfl, hsl⟩ hK
      rw [round1] at hK
      rw [fold1]
      simp only [List.setIfInBounds_toArray, List.set_cons_succ, List.set_cons_zero] at hK ⊢
      gi_wp2
      exact hK
    case hbody =>
      rintro l0 k xs W hk hI ⟨A', rfl, hsl⟩ hl3 hl4
      rw [round1]
      simp only [List.setIfInBounds_toArray, List.set_cons_succ, List.set_cons_zero]
      obtain ⟨C, hC⟩ : ∃ C, C = chunk l a k := ⟨_, rfl⟩
      rw [← hC] at hsl ⊢
      have hCl : C.length ≤ 400 := by rw [hC, chunk_len]; have := HL4.out; omega
      have hCr : ∀ x ∈ C, 0 ≤ x ∧ x < (N : Int) := fun x hx => HREG.out x (chunk_mem (by rw [← hC]; exact hx))
      have hE0 : tallyE C (N : Int) = 0 := by
        unfold tallyE inE
        rw [if_neg (by omega), if_neg (by omega), if_neg]
        rintro ⟨_, h9⟩
        rw [List.any_eq_true] at h9
        obtain ⟨x, hx, h9⟩ := h9
        have := hCr x hx
        unfold outB at h9
        simp at h9
        omega
      have HT := Lib.hid (tallyF_any A' C.length C (N : Int) W (by omega) hsl)
      have z4 := hI.k0.cell 0
      simp at z4
      have HI := Lib.hid hI; have HE0 := Lib.hid hE0; have HC2 := Lib.hid hC
      clear hI hE0 hC hsl hCr
      gi_wp2
      refine ⟨trivial, (CallsIn.inRound l0 (callsIn_wide.2 HT.out)).mono ?_⟩
      intro e3 W3 h3
      unfold RetTally at h3
      rw [HE0.out, if_pos rfl] at h3
      obtain ⟨u, v, rfl, hu, hv, hu0, hv0, hb3⟩ := h3
      rw [Int.toNat_natCast] at hu hv
      simp only [Int.toNat_natCast]
      have HI3 := Lib.hid (HI.out.grow hb3)
      obtain ⟨L, hL⟩ : ∃ L, L = needF l N a k := ⟨_, rfl⟩
      obtain ⟨D, hD⟩ : ∃ D, D = cntL C N C.length := ⟨_, rfl⟩
      have hLN : L.length = N := by rw [hL, needF_len]
      have hDN : D.length = N := by rw [hD, cntL_len]
      have hDb : ∀ j, 0 ≤ D.getD j 0 ∧ D.getD j 0 ≤ 400 := fun j => by have := cnt_bd C N C.length j; rw [← hD] at this; omega
      have hNE : Hid (needF l N a (k + 1) = List.zipWith max L D) := (by show _ = _; simp only [needF]; rw [← hL, hD, HC2.out] : _)
      rw [← hD] at hu
      have hum : Hid (u ≠ nb ∧ u ≠ nb + 1 ∧ u ≠ b1 ∧ u ≠ b2 ∧ u ≠ w.heap.size) := (by
        have := HI.out.arr.len2; have := HI.out.k9.lt; have := HI.out.kb1.lt; have := HI.out.kb2.lt; have := HI.out.k0.lt
        show _ ∧ _; omega : _)
      have HU := Lib.hid hu
      have HK3 : Hid (KeepsFrom w2.heap.size W W3) := keepsFrom_below hb3
      have HLE := Lib.hid hL
      have hA3 : Hid (Arr W3 nb (mrgL L D 0)) := (by rw [mrgL_zero, hL]; exact HI3.out.arr : _)
      clear hu hv hb3 hL hD z4
      gi_wp2
      gi_loopw [51] (fun iv wr => ∃ j : Nat, j ≤ N ∧ iv = .int .i64 (j : Int) ∧ Hid (KeepsFrom w2.heap.size W wr) ∧ Hid (Arr wr nb (mrgL L D j)) ∧ Hid (Arr wr u D) ∧ Hid (NdK w l N a A c nb b1 b2 wr)) (fun iv _ => N - (intOf iv).toNat)
      case atStart => exact ⟨0, by omega, rfl, HK3, hA3, HU, Lib.hid ⟨HI3.out.low, HI3.out.k0, HI3.out.k9, HI3.out.kb1, HI3.out.kb2⟩⟩
      case round =>
        clear HK3 hA3 HU HI3
        obtain ⟨j, hj, rfl, HK3, HA3, HU, HN3⟩ := hrel
        by_cases hlt : j < N
        · have j0 : (0 : Int) ≤ (j : Int) := by omega
          have j1 : (j : Int) < (N : Int) := by omega
          have hq := HU.out.atD (j := j) (by omega)
          have hp := HA3.out.atD (j := j) (by rw [mrgL_len (by omega) (by omega)]; omega)
          rw [mrgL_get (by omega) (by omega)] at hp
          have HS : Hid (mrgL L D (j + 1) = (mrgL L D j).set j (max (L.getD j 0) (D.getD j 0))) := (by show _ = _; exact mrgL_succ (by omega) (by omega) : _)
          have hdb := hDb j
          obtain ⟨y, hy⟩ : ∃ y, y = D.getD j 0 := ⟨_, rfl⟩
          obtain ⟨x, hx⟩ : ∃ x, x = L.getD j 0 := ⟨_, rfl⟩
          rw [← hy] at hq hdb HS
          rw [← hx] at hp HS
          have z9 := HN3.out.k9.cell 0
          simp at z9
          have fp := Blk.free HA3.out j
          have lt9 := HN3.out.k9.lt
          have ltn := HA3.out.len2
          clear hy hx
          have hne9 : nb ≠ nb + 1 := by omega
          have HP := Lib.hid hp
          gi_wp2
          refine wpIn_region_tail 9 (by kernel_rfl) (by kernel_rfl) (by kernel_rfl) ?_
          simp only [List.take_succ_cons, List.take_zero, List.drop_succ_cons, List.drop_zero]
          (repeat (go_big_quiet_step (fail)))
          with_reducible refine wpQuiet_nil ?_
          intro w4 hw4
          have hb4 := ext_below hw4
          have hA4 := Blk.below HA3.out hb4 ltn
          have HA4 := Lib.hid hA4
          have HU4 := Lib.hid (Blk.below HU.out hb4 HU.out.len2)
          have HN4 : Hid (NdK w l N a A c nb b1 b2 w4) := Lib.hid ⟨bl2 HN3.out.low hb4, HN3.out.k0.below hb4 HN3.out.k0.lt, HN3.out.k9.below hb4 HN3.out.k9.lt, HN3.out.kb1.below hb4 HN3.out.kb1.lt, HN3.out.kb2.below hb4 HN3.out.kb2.lt⟩
          have HK4 := Lib.hid (HK3.out.trans (keepsFrom_below hb4))
          have fp4 := Blk.free hA4 j
          have hp4 : w4.cell? ⟨nb, j, none⟩ = some (.int .i64 x) := ((bcell hb4).1 nb j ltn).trans hp
          clear hw4 hb4 hA4 hp fp z9 lt9 ltn hq
          gi_wp2
          go_roundw
          case rel => exact ⟨j + 1, by omega, by go_num, Lib.hid (HK4.out.trans ((KeepsOthers.setCell _ _ _).from _)), by rw [HS.out]; exact Lib.hid (Arr.put HA4.out j (max x y)), Lib.hid (Blk.far HU4.out ⟨nb, j, none⟩ hum.out.1 _),
            Lib.hid ⟨HN4.out.low.setCell (p := ⟨nb, j, none⟩) (by show w.heap.size ≤ nb; omega) _, HN4.out.k0.far ⟨nb, j, none⟩ (by show w.heap.size ≠ nb; omega) _, HN4.out.k9.far ⟨nb, j, none⟩ (by show nb + 1 ≠ nb; omega) _, HN4.out.kb1.far ⟨nb, j, none⟩ (by show b1 ≠ nb; omega) _, HN4.out.kb2.far ⟨nb, j, none⟩ (by show b2 ≠ nb; omega) _⟩⟩
          case measure => simp [intOf]; omega
        · obtain rfl : j = N := by omega
          gi_wp2
          refine ⟨HK3.out, ?_⟩
          have ha := HA3.out
          rw [← hLN, mrgL_end (by omega), ← hNE.out] at ha
          exact ⟨HN3.out.low, HN3.out.k0, HN3.out.k9, ha, HN3.out.kb1, HN3.out.kb2⟩
    case hdone =>
      rintro DD W hI hD hDW
      have z9 := hI.k9.cell 0
      simp at z9
      have HI := Lib.hid hI; have HDW := Lib.hid hDW
      clear hI hDW
      go_wp2
      refine marks_ret1 (v := .tuple #[.slice (some ⟨nb, 0, none⟩) N N, .int .i64 0]) rfl HDW.out (by simp [results, Try.results29, go_sem]) ?_
      unfold RetNeed
      rw [HT.out, if_pos rfl]
      refine ⟨nb, ?_, ?_, by omega, below_putObj HI.out.low (by have := HV2.out.size; omega) HDW.out _⟩
      · rw [Int.toNat_natCast]
      · rw [Int.toNat_natCast, Int.toNat_natCast]
        exact Blk.putObj HI.out.arr HDW.out rfl
  · have hQ0 : (er != 0) = true := by simp; exact h0
    clear her
    refine calls_marks Try.func29 rfl ?_
    simp only [Try.ntmps29, List.size_toArray, List.length_cons, List.length_nil, Nat.reduceAdd, Nat.reduceSub, Array.replicate_succ, Array.replicate_zero, List.push_toArray, List.append_toArray, List.nil_append, List.cons_append]
    go_wp2_with (first | (go_at_call 62; refine (HW.out _ (by (repeat (first | exact Below.refl _ _ | assumption | (refine Below.alloc ?_ (by first | omega | (simp; omega) | (simp; done)) _) | (refine Below.setCell ?_ (by first | omega | (simp; omega) | (simp; done)) _) | (refine Below.drew ?_) | (refine belowN ?_ _) | (refine Below.trans ?_ (Below.mono ‹Below _ _ _› (by first | omega | (simp; omega) | (simp; done)))))))).mono ?_; rintro _ w1 ⟨rfl, hb1⟩) | fail)
    refine marks_ret0 (v := .tuple #[.slice none 0 0, .int .i64 er]) rfl (by simp [results, Try.results29, go_sem]) ?_
    unfold RetNeed
    rw [HT.out, if_neg h0]
    exact ⟨rfl, (by (repeat (first | exact Below.refl _ _ | assumption | (refine Below.alloc ?_ (by first | omega | (simp; omega) | (simp; done)) _) | (refine Below.setCell ?_ (by first | omega | (simp; omega) | (simp; done)) _) | (refine Below.drew ?_) | (refine belowN ?_ _) | (refine Below.trans ?_ (Below.mono ‹Below _ _ _› (by first | omega | (simp; omega) | (simp; done)))))) : Below w.heap.size w _).trans (hb1.mono (by simp))⟩
end Go.Proofs.Ytiikkcifdhcejaa
namespace Go.Proofs.Ytiikkcifdhcejaa
open Go.RowKit

set_option maxRecDepth 100000 in
set_option maxHeartbeats 4000000 in
theorem rneed_any (A : Option Addr) (c : Nat) (l : List Int) (N a : Nat) (w : World) (h32 : N ≤ 32) (ha : 1 ≤ a) (ha4 : a ≤ 400) (hl : l.length ≤ 400) (hc : l.length ≤ c) (hreg : ∀ x ∈ l, 0 ≤ x ∧ x < (N : Int)) (hr : Sl intCell 1 w w.heap.size A l) :
    Calls Try.prog 34 #[.slice A l.length c, .int .i64 (N : Int), .int .i64 (a : Int)] w fun e w' => ∃ nb : Nat, e = .returned (.slice (some ⟨nb, 0, none⟩) N N) ∧ Arr w' nb (needF l N a (casts l.length a)) ∧ w.heap.size ≤ nb ∧ Below w.heap.size w w' := by
  have HR := Lib.hid hr
  have HREG := Lib.hid hreg
  have hmk := mk_ints N (by omega)
  clear hr hreg
  go_enter Try.func34, Try.ntmps34
  go_upto_region 3 with (first | (simp only [hmk]) | fail)
  obtain ⟨nb, hnb⟩ : ∃ q, q = w.heap.size := ⟨_, rfl⟩
  rw [← hnb]
  refine gen_w (fun W => Below w.heap.size w W ∧ Arr W nb (List.replicate N 0)) ⟨by (repeat (first | exact Below.refl _ _ | assumption | (refine Below.alloc ?_ (by first | omega | (simp; omega) | (simp; done)) _) | (refine Below.setCell ?_ (by first | omega | (simp; omega) | (simp; done)) _) | (refine Below.drew ?_) | (refine belowN ?_ _) | (refine Below.trans ?_ (Below.mono ‹Below _ _ _› (by first | omega | (simp; omega) | (simp; done)))))), by unfold Arr; rw [List.map_replicate, List.toArray_replicate]; exact Blk.at_ hnb⟩ ?_
  have hwn : w.heap.size ≤ nb := by omega
  clear hmk hnb
  rintro V ⟨hV, gN⟩
  go_loopw [8] (fun iv wr => ∃ k q : Nat, k ≤ casts l.length a ∧ iv = .int .i64 (q : Int) ∧ Hid (q = k * a) ∧ Hid (Arr wr nb (needF l N a k)) ∧ Below w.heap.size w wr) (fun iv _ => l.length + a - (intOf iv).toNat)
  case atStart => exact ⟨0, 0, by omega, rfl, Lib.hid (by simp), gN, hV⟩
  case round =>
    clear gN hV
    obtain ⟨k, q, hk, rfl, HQ, HN, hb⟩ := hrel
    have hz := hb.size
    by_cases hlt : q < l.length
    · have hkK : k < casts l.length a := (casts_lt ha).2 (by rw [← HQ.out]; exact hlt)
      obtain ⟨b, o, rfl, hbb, hcell⟩ := (HR.out.below hb).2 (by omega)
      have hsl : Sl intCell 1 wr w.heap.size (some ⟨b, o, none⟩) l := HR.out.below hb
      have hch := hsl.chunk a k
      have hcl := chunk_len l a k
      rw [← HQ.out] at hch hcl
      obtain ⟨X, hX⟩ : ∃ X, X = q + a := ⟨_, rfl⟩
      obtain ⟨t, ht⟩ : ∃ t, t = min l.length X := ⟨_, rfl⟩
      obtain ⟨C, hC⟩ : ∃ C, C = chunk l a k := ⟨_, rfl⟩
      rw [← hC] at hch hcl
      have hCt : C.length = t - q := by omega
      have wX : IntKind.i64.wrap ((q : Int) + (a : Int)) = (X : Int) := by
        rw [hX, ← Int.natCast_add]
        exact IntWalk.i64_in _ ⟨by omega, by omega⟩
      have hmin : min (l.length : Int) (X : Int) = (t : Int) := by omega
      have hqt : q ≤ t := by omega
      have htc : t ≤ c := by omega
      have q0 : (0 : Int) ≤ (q : Int) := by omega
      have q1 : (q : Int) < (l.length : Int) := by omega
      have hCr : ∀ x ∈ C, 0 ≤ x ∧ x < (N : Int) := fun x hx => HREG.out x (chunk_mem (by rw [← hC]; exact hx))
      have HT := Lib.hid (rtally_any (some ⟨b, o + q, none⟩) (c - q) C N wr h32 (by omega) hCr (hch.more hz))
      rw [hCt] at HT
      have HX := Lib.hid hX; have HCE := Lib.hid hC
      clear hX ht hC hCr hcl hch hsl hcell hCt
      go_wp2_with (first | (go_at_call 35; refine HT.out.mono ?_; rintro _ w3 ⟨u, v, rfl, hu, hv, hu0, hv0, hb3⟩; refine Hid.out ?_) | fail)
      obtain ⟨L, hL⟩ : ∃ L, L = needF l N a k := ⟨_, rfl⟩
      obtain ⟨D, hD⟩ : ∃ D, D = cntL C N C.length := ⟨_, rfl⟩
      have hLN : L.length = N := by rw [hL, needF_len]
      have hDN : D.length = N := by rw [hD, cntL_len]
      have hNE : Hid (needF l N a (k + 1) = List.zipWith max L D) := (by show _ = _; simp only [needF]; rw [← hL, hD, HCE.out] : _)
      rw [← hD] at hu
      have hltn := HN.out.len2
      have hun : u ≠ nb := by omega
      have HU := Lib.hid hu
      have hA3 : Hid (Arr w3 nb (mrgL L D 0)) := (by rw [mrgL_zero, hL]; exact Blk.below HN.out hb3 hltn : _)
      have hb4 := bl2 hb hb3
      clear hu hv hb3 hL hD HN
      refine Lib.hid ?_
      go_wp2_with fail
      go_loopw [11] (fun iv wr => ∃ j : Nat, j ≤ N ∧ iv = .int .i64 (j : Int) ∧ Hid (Arr wr nb (mrgL L D j)) ∧ Hid (Arr wr u D) ∧ Below w.heap.size w wr) (fun iv _ => N - (intOf iv).toNat)
      case atStart => exact ⟨0, by omega, rfl, hA3, HU, hb4⟩
      case round =>
        clear hA3 HU hb hb4 hltn hu0 hv0 hz
        obtain ⟨j, hj, rfl, HA3, HU, hb⟩ := hrel
        by_cases hltj : j < N
        · have j0 : (0 : Int) ≤ (j : Int) := by omega
          have j1 : (j : Int) < (N : Int) := by omega
          have hq := HU.out.atD (j := j) (by omega)
          have hp := HA3.out.atD (j := j) (by rw [mrgL_len (by omega) (by omega)]; omega)
          rw [mrgL_get (by omega) (by omega)] at hp
          have HS : Hid (mrgL L D (j + 1) = (mrgL L D j).set j (max (L.getD j 0) (D.getD j 0))) := (by show _ = _; exact mrgL_succ (by omega) (by omega) : _)
          obtain ⟨y, hy⟩ : ∃ y, y = D.getD j 0 := ⟨_, rfl⟩
          obtain ⟨x, hx⟩ : ∃ x, x = L.getD j 0 := ⟨_, rfl⟩
          rw [← hy] at hq HS
          rw [← hx] at hp HS
          have ltn := HA3.out.len2
          have HP := Lib.hid hp
          clear hy hx
          go_upto_region 9 with fail
          refine wp_region_tail 12 (by kernel_rfl) (by kernel_rfl) ?_
          simp only [List.take_succ_cons, List.take_zero, List.drop_succ_cons, List.drop_zero]
          (repeat (go_big_quiet_step (fail)))
          with_reducible refine wpQuiet_nil ?_
          intro w4 hw4
          have hb4 := ext_below hw4
          have hA4 := Blk.below HA3.out hb4 ltn
          have HA4 := Lib.hid hA4
          have HU4 := Lib.hid (Blk.below HU.out hb4 HU.out.len2)
          have fp4 := Blk.free hA4 j
          have hp4 : w4.cell? ⟨nb, j, none⟩ = some (.int .i64 x) := ((bcell hb4).1 nb j ltn).trans HP.out
          have hb5 := bl2 hb hb4
          clear hw4 hb4 hA4 hp ltn hq hb
          go_wp2
          refine ⟨⟨j + 1, by omega, by go_num, by rw [HS.out]; exact Lib.hid (Arr.put HA4.out j (max x y)), Lib.hid (Blk.far HU4.out ⟨nb, j, none⟩ hun _), hb5.setCell (p := ⟨nb, j, none⟩) hwn _⟩, ?_⟩
          simp [intOf]; omega
        · obtain rfl : j = N := by omega
          have ha3 := HA3.out
          rw [← hLN, mrgL_end (by omega), ← hNE.out] at ha3
          have HA4 := Lib.hid ha3
          have hkx : X = (k + 1) * a := by rw [HX.out, HQ.out, Nat.add_mul, Nat.one_mul]
          have HKX := Lib.hid hkx
          clear ha3 HA3 hkx
          go_wp2
          refine ⟨⟨k + 1, X, by omega, by go_num, HKX, HA4, hb⟩, ?_⟩
          have := HX.out
          simp [intOf]; omega
    · obtain rfl : k = casts l.length a := by
        have : ¬ k < casts l.length a := fun h => by
          have := (casts_lt ha).1 h
          rw [← HQ.out] at this; omega
        omega
      have d9 : decide ((q : Int) < (l.length : Int)) = false := decide_eq_false (by omega)
      go_wp2
      go_ret
      exact ⟨nb, rfl, HN.out, hwn, hb⟩
end Go.Proofs.Ytiikkcifdhcejaa

/- The law SchoolComments: every input. -/
import Derived.Test.YtidlmbajpbbilaaCmE
import Derived.Test.YtidlmbajpbbilaaZ20HlF
import Derived.Test.YtidlmbajpbbilaaRows
import Derived.Test.YtidlmbajpbbilaaChecked
import Derived.ProofKit
import Derived.Deep.Slices
import Derived.Deep.Fields
import Derived.ChangeSame
import Derived.Below
import Derived.Carry
import Derived.OpenShut
import Derived.Test.YtidlmbajpbbilaaZ28LgA
namespace Go.Proofs.Ytidlmbajpbbilaa
open Go.RowKit

set_option maxRecDepth 100000 in
set_option maxHeartbeats 8000000 in
theorem lwcom_any (s : Sch) (kind : Int) (A : Option Addr) (c : Nat) (cs : List Cas) (w : World) (hr : s.wreads w w.heap.size) (h0 : s.nil0) (hA : CasW w w.heap.size A cs) (hn : ∀ q ∈ cs, q.nil0) :
    Calls Try.prog 12 #[scv s s.rv, .int .i64 kind, .slice A cs.length c] w fun e w' => e = .returned (.bool true) ∧ Below w.heap.size w w' := by
  have HRR := Lib.hid hr; have HAA := Lib.hid hA; have HN0 := Lib.hid h0; have HN := Lib.hid hn
  clear hr hA h0 hn
  by_cases hg : largeB s 600 = true
  · go_enter Try.func12, Try.ntmps12
    go_wp2_with (first | (go_at_call 14; refine (large_any s 600 _ ((HRR.out.below (by (repeat (first | exact Below.refl _ _ | assumption | (refine Below.alloc ?_ (by first | omega | (simp; omega) | (simp; done)) _) | (refine Below.setCell ?_ (by first | omega | (simp; omega) | (simp; done)) _) | (refine Below.drew ?_) | (refine belowN ?_ _) | (refine Below.trans ?_ (Below.mono ‹Below _ _ _› (by first | omega | (simp; omega) | (simp; done)))))))).more (by simp))).mono ?_; rintro _ W1 ⟨rfl, hb1⟩; have hw1 : Below w.heap.size w W1 := bl2 (bla (Below.refl _ _)) hb1; rw [hg]) | (go_at_call 15; refine (known_any _).mono ?_; rintro _ Wk ⟨rfl, hbk'⟩))
    go_ret
    exact ⟨rfl, bl2 hw1 hbk'⟩
  · simp only [Bool.not_eq_true] at hg
    by_cases h30 : cs.length ≤ 30
    · by_cases h10 : ∀ q ∈ cs, q.when_.length ≤ 8
      · exact lwcom_ok s kind A c cs w HRR HN0 (HAA.out.reads (by omega) h10) HN hg h30 (Lib.hid h10)
      · have H10 := Lib.hid h10
        have d1 : decide (30 < (cs.length : Int)) = false := by simp; omega
        have d1' : decide (30 < cs.length) = false := by simp; omega
        clear h10
        go_enter Try.func12, Try.ntmps12
        go_wp2_with (go_at_call 14; refine (large_any s 600 _ ((HRR.out.below (by (repeat (first | exact Below.refl _ _ | assumption | (refine Below.alloc ?_ (by first | omega | (simp; omega) | (simp; done)) _) | (refine Below.setCell ?_ (by first | omega | (simp; omega) | (simp; done)) _) | (refine Below.drew ?_) | (refine belowN ?_ _) | (refine Below.trans ?_ (Below.mono ‹Below _ _ _› (by first | omega | (simp; omega) | (simp; done)))))))).more (by simp))).mono ?_; rintro _ W1 ⟨rfl, hbx⟩; rw [hg]; have hw1 := bl2 (bla (Below.refl _ _)) hbx)
        clear d1 d1'
        refine gen_w (fun W => Below w.heap.size w W) hw1 ?_
        clear hw1 hbx
        clear W1
        intro w0 hw0
        go_loopw [7] (fun i wr => ∃ j : Nat, j ≤ cs.length ∧ i = .int .i64 j ∧ Below w0.heap.size w0 wr ∧ Hid (∀ q ∈ cs.take j, q.when_.length ≤ 8)) (fun i _ => cs.length - (intOf i).toNat)
        case atStart => exact ⟨0, by omega, rfl, Below.refl _ _, fun q hq => by cases hq⟩
        case round =>
          obtain ⟨j, hj, rfl, hb, HT⟩ := hrel
          have hw1 : Below w.heap.size w wr := bl2 hw0 hb
          by_cases hlt : j < cs.length
          · have hrr := (HAA.out.1.below hw1)
            obtain ⟨ab, ao, rfl, hblk, hcell⟩ := hrr.at_ (k := j) (fun _ => rfl) hlt
            have HTK := Lib.hid (List.take_succ_eq_append_getElem hlt)
            obtain ⟨q, hqe⟩ : ∃ t, cs[j] = t := ⟨_, rfl⟩
            obtain ⟨⟨qa, qc, hqv, -⟩, -⟩ := HAA.out.2 _ (List.getElem_mem hlt)
            rw [hqe] at hcell HTK hqv
            have cw0 : wr.cell? ⟨ab, ao + j * 2, none⟩ = some (Value.slice qa q.when_.length qc) := by rw [← hqv]; exact hcell 0 _ rfl
            have hj0 : (0 : Int) ≤ (j : Int) := by omega
            have hj1 : (j : Int) < (cs.length : Int) := by omega
            clear hcell hrr hqe hqv
            by_cases hq10 : q.when_.length ≤ 8
            · have d2 : decide (8 < (q.when_.length : Int)) = false := by simp; omega
              have d2' : decide (8 < q.when_.length) = false := by simp; omega
              go_wp2
              go_roundw
              case rel => exact ⟨j + 1, by omega, by go_num, hb, fun p hp => by
                rw [HTK.out] at hp
                rcases List.mem_append.1 hp with h | h
                · exact HT.out p h
                · obtain rfl : p = q := by simpa using h
                  exact hq10⟩
              case measure => simp [intOf]; omega
            · have d2 : decide (8 < (q.when_.length : Int)) = true := by simp; omega
              have d2' : decide (8 < q.when_.length) = true := by simp; omega
              go_wp2_with (go_at_call 15; refine (known_any _).mono ?_; rintro _ Wk ⟨rfl, hbk'⟩)
              go_ret
              exact ⟨rfl, bl2 hw1 hbk'⟩
          · exact absurd (by have := HT.out; rwa [List.take_of_length_le (by omega)] at this) H10.out
    · have d1 : decide (30 < (cs.length : Int)) = true := by simp; omega
      have d1' : decide (30 < cs.length) = true := by simp; omega
      go_enter Try.func12, Try.ntmps12
      go_wp2_with (first | (go_at_call 14; refine (large_any s 600 _ ((HRR.out.below (by (repeat (first | exact Below.refl _ _ | assumption | (refine Below.alloc ?_ (by first | omega | (simp; omega) | (simp; done)) _) | (refine Below.setCell ?_ (by first | omega | (simp; omega) | (simp; done)) _) | (refine Below.drew ?_) | (refine belowN ?_ _) | (refine Below.trans ?_ (Below.mono ‹Below _ _ _› (by first | omega | (simp; omega) | (simp; done)))))))).more (by simp))).mono ?_; rintro _ W1 ⟨rfl, hb1⟩; have hw1 : Below w.heap.size w W1 := bl2 (bla (Below.refl _ _)) hb1; rw [hg]) | (go_at_call 15; refine (known_any _).mono ?_; rintro _ Wk ⟨rfl, hbk'⟩))
      go_ret
      exact ⟨rfl, bl2 hw1 hbk'⟩
end Go.Proofs.Ytidlmbajpbbilaa
namespace Go.Proofs.Ytidlmbajpbbilaa
open Go.RowKit Go.ChangeShapes Go.WideShapes Go.ChangeAt Go.Deep

theorem spot_of_cell {w : World} {a : Addr} {u : Value} (h : w.cell? a = some u) : a.spot = none := by
  unfold World.cell? at h
  split at h
  · split at h
    · cases h
    · rename_i hs; simpa using hs
  · cases h
/-- a slice of things, each opened by itself -/
theorem sl_of_open {α : Type} (f : α → List Value) (size : Nat) (hsz : 0 < size) (hf : ∀ x, (f x).length = size) {w : World} {a : Addr} (Q : α → Prop) : ∀ (len : Nat), (∀ i, i < len → ∃ x, Q x ∧ ∀ j u, (f x)[j]? = some u → w.cell? (a.add (i * size + j)) = some u) →
    ∃ l : List α, l.length = len ∧ Sl f size w w.heap.size (some a) l ∧ ∀ x ∈ l, Q x := by
  intro len h
  have h' : ∀ i : Fin len, ∃ x, Q x ∧ ∀ j u, (f x)[j]? = some u → w.cell? (a.add (i.1 * size + j)) = some u := fun i => h i.1 i.2
  let g : Fin len → α := fun i => (h' i).choose
  have hg : ∀ i, Q (g i) ∧ ∀ j u, (f (g i))[j]? = some u → w.cell? (a.add (i.1 * size + j)) = some u := fun i => (h' i).choose_spec
  have hlen : (List.ofFn g).length = len := by simp
  refine ⟨List.ofFn g, hlen, ⟨flat_length f size hf _, fun hpos => ?_⟩, fun x hx => ?_⟩
  · rw [hlen] at hpos
    have hc : ∀ (k r : Nat) (hk : k < len) (u : Value), (f (g ⟨k, hk⟩))[r]? = some u → w.cell? (a.add (k * size + r)) = some u := fun k r hk u hu => (hg ⟨k, hk⟩).2 r u hu
    have h0 : 0 < (f (g ⟨0, hpos⟩)).length := by rw [hf]; exact hsz
    have c0 := hc 0 0 hpos _ (List.getElem?_eq_getElem h0)
    have hs : (a.add (0 * size + 0)).spot = none := spot_of_cell c0
    obtain ⟨b, o, sp⟩ := a
    replace hs : sp = none := by simpa [Addr.add] using hs
    subst hs
    refine ⟨b, o, rfl, by have h := World.block_lt_of_cell? w _ c0; rw [Go.WideShapes.add_plain] at h; exact h, fun j u hu => ?_⟩
    have hjl : j < len * size := by
      have h1 := (List.getElem?_eq_some_iff.1 hu).1
      rw [flat_length f size hf, hlen] at h1
      exact h1
    have hk : j / size < len := by rw [Nat.div_lt_iff_lt_mul hsz]; exact hjl
    have hj : j / size * size + j % size = j := by rw [Nat.mul_comm]; exact Nat.div_add_mod j size
    have hfg := flat_get f size hf (List.ofFn g) (j / size) (j % size) (by rw [hlen]; exact hk) (Nat.mod_lt _ hsz)
    rw [hj, hu] at hfg
    have hge : (List.ofFn g)[j / size]'(by rw [hlen]; exact hk) = g ⟨j / size, hk⟩ := by simp
    rw [hge] at hfg
    have := hc (j / size) (j % size) hk u hfg.symm
    rw [hj, Go.WideShapes.add_plain] at this
    exact this
  · obtain ⟨i, rfl⟩ := List.mem_ofFn.1 hx
    exact (hg i).1
section
variable {H : Type} {enc : TypeId × Value → H} {P : Program} {w : World} {base : Nat} {spare : Nat → Bool} {held : Bool}
theorem open_sl {α : Type} (f : α → List Value) (size : Nat) (hsz : 0 < size) (hf : ∀ x, (f x).length = size) (Q : α → Prop) {t e : TypeId} {fuel : Nat} {cs : List Value} {x : DataW H × List MemPlace} (ht : P.underlying t = some (.slice e)) (hC : P.cellsOf e = size)
    (hel : ∀ (n : Nat) (cs' : List Value) (y : DataW H × List MemPlace), DataW.trod enc P w base spare held n e cs' = some y → cs'.length = size → ∃ u, Q u ∧ f u = cs') (h : DataW.trod enc P w base spare held fuel t cs = some x) :
    ∃ A c l, cs = [.slice A l.length c] ∧ Sl f size w w.heap.size A l ∧ (A = none → c = 0) ∧ ∀ u ∈ l, Q u := by
  rcases open_slice ht h with ⟨h0, _⟩ | ⟨a, len, cap, m, n, D, Pl, hcs, hb, hl, hm, hmm, hx, hi⟩
  · exact ⟨none, 0, [], h0, sl_nil, fun _ => rfl, fun u hu => by cases hu⟩
  · obtain ⟨l, hll, hs, hq⟩ := sl_of_open f size hsz hf (w := w) (a := a) Q len fun i hil => by
      obtain ⟨cs', hc, ht'⟩ := hi i (by rw [hmm]; split <;> omega)
      rw [hC] at hc
      obtain ⟨_, hcl, hat⟩ := World.cells?_some hc
      obtain ⟨u, hQ, hu⟩ := hel n cs' _ ht' hcl
      refine ⟨u, hQ, fun j v hv => ?_⟩
      rw [hu] at hv
      have hj : j < size := by have := (List.getElem?_eq_some_iff.1 hv).1; omega
      have := hat j hj
      rw [← Go.Deep.add_add, this, hv]
    exact ⟨some a, cap, l, by rw [hll]; exact hcs, hs, fun e => (by cases e), hq⟩
theorem open_ints {t e : TypeId} {fuel : Nat} {cs : List Value} {x : DataW H × List MemPlace} (ht : P.underlying t = some (.slice e)) (he : P.underlying e = some (.int .i64)) (hC : P.cellsOf e = 1)
    (h : DataW.trod enc P w base spare held fuel t cs = some x) : ∃ A c l, cs = [.slice A l.length c] ∧ Sl intCell 1 w w.heap.size A l ∧ (A = none → c = 0) := by
  obtain ⟨A, c, l, h1, h2, h3, _⟩ := open_sl intCell 1 (by omega) (fun _ => rfl) (fun _ => True) ht hC (fun n cs' y hy _ => by
    obtain ⟨k, rfl, _, _⟩ := DataW.trod_int he hy
    exact ⟨k, trivial, rfl⟩) h
  exact ⟨A, c, l, h1, h2, h3⟩
theorem struct_cells {e : TypeId} {fs : Array Field} {n : Nat} {cs : List Value} {y : DataW H × List MemPlace} (he : P.underlying e = some (.struct fs)) (hone : oneCellFields P fs = true) (hl : cs.length = fs.size)
    (h : DataW.trod enc P w base spare held n e cs = some y) : ∃ m, ∀ (j : Nat) (f : Field), fs[j]? = some f → ∃ v z, cs[j]? = some v ∧ DataW.trod enc P w base spare held m f.type [v] = some z := by
  obtain ⟨ys, n', hn', hy, hlen, hyl, hf⟩ := DataW.trod_struct he h
  refine ⟨n', fun j f hj => ?_⟩
  obtain ⟨ho, hk⟩ := hone_of hone j f hj
  have hjl : j < fs.size := (Array.getElem?_eq_some_iff.1 hj).1
  have h1 := hf j f hj
  rw [ho, hk] at h1
  have hone' : (cs.drop j).take 1 = [cs[j]'(by omega)] := by
    rw [List.drop_eq_getElem_cons (by omega)]; rfl
  rw [hone'] at h1
  have hys : ys[j]? = some (ys[j]'(by omega)) := List.getElem?_eq_getElem (by omega)
  exact ⟨_, _, List.getElem?_eq_getElem (by omega), h1.trans hys⟩
end
theorem u64_wf {n : Int} (h : (Lit.int .u64 n).wf = true) : 0 ≤ n ∧ n < 18446744073709551616 := by
  simp only [Lit.wf, Bool.and_eq_true, decide_eq_true_eq] at h
  have h1 : IntKind.u64.min = 0 := by decide
  have h2 : IntKind.u64.max = 18446744073709551615 := by decide
  rw [h1, h2] at h; omega
section
variable {H : Type} {enc : TypeId × Value → H} {w : World} {base : Nat} {spare : Nat → Bool} {held : Bool}
theorem open_tst {n : Nat} {cs : List Value} {y : DataW H × List MemPlace} (h : DataW.trod enc Try.prog w base spare held n 103 cs = some y) (hl : cs.length = 4) : ∃ u : Tst, u.ok ∧ u.cells = cs := by
  obtain ⟨m, hf⟩ := struct_cells Try.underlying103 (by kernel_rfl) hl h
  obtain ⟨v0, z0, c0, t0⟩ := hf 0 _ rfl
  obtain ⟨v1, z1, c1, t1⟩ := hf 1 _ rfl
  obtain ⟨v2, z2, c2, t2⟩ := hf 2 _ rfl
  obtain ⟨v3, z3, c3, t3⟩ := hf 3 _ rfl
  obtain ⟨a0, e0, _, w0⟩ := DataW.trod_int (show Try.prog.underlying _ = some (.int .i64) by kernel_rfl) t0
  obtain ⟨a1, e1, _, w1⟩ := DataW.trod_int (show Try.prog.underlying _ = some (.int .i64) by kernel_rfl) t1
  obtain ⟨a2, e2, _, w2⟩ := DataW.trod_int (show Try.prog.underlying _ = some (.int .i64) by kernel_rfl) t2
  obtain ⟨a3, e3, _, w3⟩ := DataW.trod_int (show Try.prog.underlying _ = some (.int .u64) by kernel_rfl) t3
  simp only [List.cons.injEq, and_true] at e0 e1 e2 e3
  subst e0 e1 e2 e3
  refine ⟨⟨a0, a1, a2, a3⟩, ⟨by simp [Value.oneCell'], u64_wf w3⟩, ?_⟩
  match cs, hl with
  | [x0, x1, x2, x3], _ =>
    simp at c0 c1 c2 c3
    simp [Tst.cells, c0, c1, c2, c3]
theorem open_rule {n : Nat} {cs : List Value} {y : DataW H × List MemPlace} (h : DataW.trod enc Try.prog w base spare held n 82 cs = some y) (hl : cs.length = 5) : ∃ u : Rul, (u.wreads w w.heap.size ∧ u.nil0) ∧ u.cells = cs := by
  obtain ⟨m, hf⟩ := struct_cells Try.underlying82 (by kernel_rfl) hl h
  obtain ⟨v0, z0, c0, t0⟩ := hf 0 _ rfl
  obtain ⟨v1, z1, c1, t1⟩ := hf 1 _ rfl
  obtain ⟨v2, z2, c2, t2⟩ := hf 2 _ rfl
  obtain ⟨v3, z3, c3, t3⟩ := hf 3 _ rfl
  obtain ⟨v4, z4, c4, t4⟩ := hf 4 _ rfl
  obtain ⟨A0, d0, l0, e0, s0, n0, q0⟩ := open_sl Tst.cells 4 (by omega) (fun _ => rfl) Tst.ok uTests (by kernel_rfl) (fun n cs' y hy hl => open_tst hy hl) t0
  obtain ⟨a1, e1, _, _⟩ := DataW.trod_int (show Try.prog.underlying _ = some (.int .i64) by kernel_rfl) t1
  obtain ⟨a2, e2, _, _⟩ := DataW.trod_int (show Try.prog.underlying _ = some (.int .i64) by kernel_rfl) t2
  obtain ⟨A3, d3, l3, e3, s3, n3⟩ := open_ints uInts (by kernel_rfl) (by kernel_rfl) t3
  obtain ⟨a4, e4, _, _⟩ := DataW.trod_int (show Try.prog.underlying _ = some (.int .i64) by kernel_rfl) t4
  simp only [List.cons.injEq, and_true] at e0 e1 e2 e3 e4
  subst e0 e1 e2 e3 e4
  refine ⟨⟨A0, d0, l0, a1, a2, A3, d3, l3, a4⟩, ⟨⟨s0, s3, q0⟩, n0, n3⟩, ?_⟩
  match cs, hl with
  | [x0, x1, x2, x3, x4], _ =>
    simp at c0 c1 c2 c3 c4
    simp [Rul.cells, c0, c1, c2, c3, c4]
theorem open_rules {n : Nat} {cs : List Value} {y : DataW H × List MemPlace} (h : DataW.trod enc Try.prog w base spare held n 22 cs = some y) : ∃ A c l, cs = [.slice A l.length c] ∧ Sl Rul.cells 5 w w.heap.size A l ∧ (A = none → c = 0) ∧ ∀ u ∈ l, u.wreads w w.heap.size ∧ u.nil0 :=
  open_sl Rul.cells 5 (by omega) (fun _ => rfl) (fun u => u.wreads w w.heap.size ∧ u.nil0) uRules (by kernel_rfl) (fun n cs' y hy hl => open_rule hy hl) h
theorem open_school {n : Nat} {cs : List Value} {y : DataW H × List MemPlace} (h : DataW.trod enc Try.prog w base spare held n 24 cs = some y) (hl : cs.length = 5) : ∃ s : Sch, s.wreads w w.heap.size ∧ s.nil0 ∧ cs = [.int .i64 s.places, .int .i64 s.signs, .int .i64 s.kinds, .int .i64 s.answers, s.rv] := by
  obtain ⟨m, hf⟩ := struct_cells Try.underlying24 (by kernel_rfl) hl h
  obtain ⟨v0, z0, c0, t0⟩ := hf 0 _ rfl
  obtain ⟨v1, z1, c1, t1⟩ := hf 1 _ rfl
  obtain ⟨v2, z2, c2, t2⟩ := hf 2 _ rfl
  obtain ⟨v3, z3, c3, t3⟩ := hf 3 _ rfl
  obtain ⟨v4, z4, c4, t4⟩ := hf 4 _ rfl
  obtain ⟨a0, e0, _, _⟩ := DataW.trod_int (show Try.prog.underlying _ = some (.int .i64) by kernel_rfl) t0
  obtain ⟨a1, e1, _, _⟩ := DataW.trod_int (show Try.prog.underlying _ = some (.int .i64) by kernel_rfl) t1
  obtain ⟨a2, e2, _, _⟩ := DataW.trod_int (show Try.prog.underlying _ = some (.int .i64) by kernel_rfl) t2
  obtain ⟨a3, e3, _, _⟩ := DataW.trod_int (show Try.prog.underlying _ = some (.int .i64) by kernel_rfl) t3
  obtain ⟨A4, d4, l4, e4, s4, n4, q4⟩ := open_rules t4
  simp only [List.cons.injEq, and_true] at e0 e1 e2 e3 e4
  subst e0 e1 e2 e3 e4
  refine ⟨⟨a0, a1, a2, a3, A4, d4, l4⟩, ⟨s4, fun r hr => (q4 r hr).1⟩, ⟨n4, fun r hr => (q4 r hr).2⟩, ?_⟩
  match cs, hl with
  | [x0, x1, x2, x3, x4], _ =>
    simp at c0 c1 c2 c3 c4
    simp [c0, c1, c2, c3, c4]
end
theorem own_godebug : ownKnob Try.prog.godebug = none := by kernel_rfl
theorem laidOut_ : laidOutB Try.prog = true := by kernel_rfl
section
variable {H : Type} {enc : TypeId × Value → H}
/-- The row's last step for a law without variables of the package that leaves what was there: results and arguments are given, what was not reached stays by the frame. -/
theorem row_end {f : Func} {c : ChangeSpec} {W W' : World} {args : Array Value} {v : Value} {ds : List (DataW H)} {ps : List MemPlace} (hv : c.vars = [])
    (hW : DataW.Whole enc Try.prog f.params.toList c.vars false W args.toList ds [] ps) (hb : Below W.heap.size W W')
    (hr : DataW.TrodAll enc Try.prog W' W.heap.size (fun _ => false) false f.resultTypes.toList (v.resultList f.resultTypes.size) (c.fn H ds).results [])
    (ha : DataW.TrodAll enc Try.prog W' 0 (fun b => decide (b < W.heap.size)) true f.params.toList args.toList (c.fn H ds).args ps) (hn : (c.fn H ds).vars = []) :
    c.post enc Try.prog f false true false false W args v W' := by
  have hk : W.keptBut W' (· ∈ ps) := hb.frame (· ∈ ps)
  have hd : ds ++ ([] : List (DataW H)) = ds := List.append_nil ds
  unfold ChangeSpec.post
  refine ⟨ds, [], ps, [], ps, [], hW, ?_, ?_, ?_, World.keptBut_mono (fun x hx => ⟨hx, Or.inr (Or.inl hx)⟩) hk, Bool.noConfusion⟩
  · rw [hd]; exact hr
  · rw [hd]; exact ha
  · rw [hd, hv, hn]; exact rfl
set_option maxRecDepth 100000 in
theorem arg_school {W : World} {v : Value} {d : DataW H} {p : List MemPlace} {b0 : Nat} (hv : Value.okWide Try.prog W .any b0 24 v) (h : DataW.Trod enc Try.prog W 0 (fun _ => true) true 24 v d p) : ∃ s : Sch, v = scv s s.rv ∧ s.wreads W W.heap.size ∧ s.nil0 := by
  obtain ⟨cs, rfl, hsz⟩ := okWide_struct Try.underlying24 hv
  obtain ⟨fuel, hf⟩ := h
  have hC : Try.prog.cellsOf 24 = 5 := by kernel_rfl
  obtain ⟨s, h1, h2, h3⟩ := open_school hf (by simp [Value.cells]; omega)
  exact ⟨s, by simp only [Value.cells] at h3; obtain ⟨l⟩ := cs; simp at h3; subst h3; rfl, h1, h2⟩
set_option maxRecDepth 100000 in
theorem arg_ints {W : World} {v : Value} {d : DataW H} {p : List MemPlace} {b0 : Nat} (hv : Value.okWide Try.prog W .any b0 28 v) (h : DataW.Trod enc Try.prog W 0 (fun _ => true) true 28 v d p) : ∃ A c l, v = .slice A l.length c ∧ Sl intCell 1 W W.heap.size A l ∧ (A = none → c = 0) := by
  obtain ⟨fuel, hf⟩ := h
  obtain ⟨A, c, l, h1, h2, h3⟩ := open_ints uInts (by kernel_rfl) (by kernel_rfl) hf
  refine ⟨A, c, l, ?_, h2, h3⟩
  simp only [Value.okWide, uInts, Cell.okWide] at hv
  cases v <;> simp_all [Value.cells, Cell.ok]
set_option maxRecDepth 100000 in
theorem arg_pair {W : World} {v : Value} {d : DataW H} {p : List MemPlace} {b0 : Nat} (hv : Value.okWide Try.prog W .any b0 87 v) (h : DataW.Trod enc Try.prog W 0 (fun _ => true) true 87 v d p) : ∃ a b : Int, v = .agg #[.int .i64 a, .int .i64 b] := by
  have hu : Try.prog.underlying 87 = some (.array 2 3) := by kernel_rfl
  have hC : Try.prog.cellsOf 87 = 2 := by kernel_rfl
  have hC1 : Try.prog.cellsOf 3 = 1 := by kernel_rfl
  obtain ⟨cs, rfl, hsz⟩ : ∃ cs, v = .agg cs ∧ cs.size = Try.prog.cellsOf 87 := by
    simp only [Value.okWide, hu] at hv
    obtain ⟨cs, h1, h2, _⟩ := hv
    exact ⟨cs, h1, h2⟩
  obtain ⟨fuel, hf⟩ := h
  obtain ⟨xs, m, _, _, hl, hxl, hi⟩ := DataW.trod_array hu hf
  obtain ⟨l⟩ := cs
  match l, hsz.trans hC with
  | [c0, c1], _ =>
    have t0 := hi 0 (by omega); have t1 := hi 1 (by omega)
    rw [hC1, List.getElem?_eq_getElem (by omega)] at t0 t1
    simp [Value.cells] at t0 t1
    obtain ⟨a, ha, _⟩ := DataW.trod_int (show Try.prog.underlying _ = some (.int .i64) by kernel_rfl) t0
    obtain ⟨b, hb, _⟩ := DataW.trod_int (show Try.prog.underlying _ = some (.int .i64) by kernel_rfl) t1
    simp at ha hb
    exact ⟨a, b, by rw [ha, hb]⟩
set_option maxRecDepth 100000 in
theorem stays {W W' : World} {t : TypeId} (hr : Try.prog.readableRec t = true) (hrow : t < Try.prog.types.size) {v : Value} {d : DataW H} {ps : List MemPlace} {sp : Nat → Bool} (h : DataW.Trod enc Try.prog W 0 (fun _ => true) true t v d ps) (hb : Below W.heap.size W W') (hlt : ∀ x ∈ ps, x.block < W.heap.size) (hsp : ∀ x ∈ ps, sp x.block = true) :
    DataW.Trod enc Try.prog W' 0 sp true t v d ps := WideElems.Trod_stays laidOut_ hr hrow h (fun x hx => hb.same (hlt x hx)) hsp
end

section
variable {H : Type} {enc : TypeId × Value → H}
set_option maxRecDepth 100000 in
theorem arg_int {W : World} {v : Value} {d : DataW H} {p : List MemPlace} {b0 : Nat} (hv : Value.okWide Try.prog W .any b0 3 v) (h : DataW.Trod enc Try.prog W 0 (fun _ => true) true 3 v d p) : ∃ a : Int, v = .int .i64 a := by
  have hu : Try.prog.underlying 3 = some (.int .i64) := by kernel_rfl
  simp only [Value.okWide, hu, Cell.okWide] at hv
  obtain ⟨fuel, hf⟩ := h
  obtain ⟨a, ha, _⟩ := DataW.trod_int hu hf
  cases v <;> simp_all [Value.cells, Cell.ok]
set_option maxRecDepth 100000 in
theorem arg_sets {W : World} {v : Value} {d : DataW H} {p : List MemPlace} {b0 : Nat} (hv : Value.okWide Try.prog W .any b0 25 v) (h : DataW.Trod enc Try.prog W 0 (fun _ => true) true 25 v d p) : ∃ A c l, v = .slice A l.length c ∧ Sl setCell1 1 W W.heap.size A l ∧ (A = none → c = 0) ∧ ∀ x ∈ l, IsU64 x := by
  obtain ⟨fuel, hf⟩ := h
  obtain ⟨A, c, l, h1, h2, h3, h4⟩ := open_sl setCell1 1 (by omega) (fun _ => rfl) IsU64 uSets (by kernel_rfl) (fun n cs' y hy _ => by
    obtain ⟨k, rfl, _, hw⟩ := DataW.trod_int (show Try.prog.underlying _ = some (.int .u64) by kernel_rfl) hy
    exact ⟨k, u64_wf hw, rfl⟩) hf
  refine ⟨A, c, l, ?_, h2, h3, h4⟩
  simp only [Value.okWide, uSets, Cell.okWide] at hv
  cases v <;> simp_all [Value.cells, Cell.ok]
end
end Go.Proofs.Ytidlmbajpbbilaa
namespace Go.Proofs.Ytidlmbajpbbilaa
open Go.RowKit Go.ChangeShapes Go.WideShapes Go.ChangeAt Go.Deep

section
variable {H : Type} {enc : TypeId × Value → H} {w : World} {base : Nat} {spare : Nat → Bool} {held : Bool}
theorem open_case {n : Nat} {cs : List Value} {y : DataW H × List MemPlace} (h : DataW.trod enc Try.prog w base spare held n 54 cs = some y) (hl : cs.length = 2) : ∃ q : Cas, (((∃ a cap, q.v = .slice a q.when_.length cap ∧ Sl Tst.cells 4 w w.heap.size a q.when_) ∧ ∀ t ∈ q.when_, t.ok) ∧ q.nil0) ∧ q.cells = cs := by
  obtain ⟨m, hf⟩ := struct_cells Try.underlying54 (by kernel_rfl) hl h
  obtain ⟨v0, z0, c0, t0⟩ := hf 0 _ rfl
  obtain ⟨v1, z1, c1, t1⟩ := hf 1 _ rfl
  obtain ⟨A0, d0, l0, e0, s0, n0, q0⟩ := open_sl Tst.cells 4 (by omega) (fun _ => rfl) Tst.ok uTests (by kernel_rfl) (fun n cs' y hy hl => open_tst hy hl) t0
  obtain ⟨a1, e1, _, _⟩ := DataW.trod_int (show Try.prog.underlying _ = some (.int .i64) by kernel_rfl) t1
  simp only [List.cons.injEq, and_true] at e0 e1
  subst e0 e1
  refine ⟨⟨.slice A0 l0.length d0, l0, a1⟩, ⟨⟨⟨A0, d0, rfl, s0⟩, q0⟩, fun n cap e => ?_⟩, ?_⟩
  · have e2 : A0 = none ∧ l0.length = n ∧ d0 = cap := by injection e with e1 e2 e3; exact ⟨e1, e2, e3⟩
    rw [← e2.2.2]; exact n0 e2.1
  match cs, hl with
  | [x0, x1], _ =>
    simp at c0 c1
    simp [Cas.cells, c0, c1]
set_option maxRecDepth 100000 in
theorem arg_cases {W : World} {v : Value} {d : DataW H} {p : List MemPlace} {b0 : Nat} (hv : Value.okWide Try.prog W .any b0 51 v) (h : DataW.Trod enc Try.prog W 0 (fun _ => true) true 51 v d p) : ∃ A c l, v = .slice A l.length c ∧ CasW W W.heap.size A l ∧ (A = none → c = 0) ∧ ∀ q ∈ l, q.nil0 := by
  obtain ⟨fuel, hf⟩ := h
  obtain ⟨A, c, l, h1, h2, h3, h4⟩ := open_sl Cas.cells 2 (by omega) (fun _ => rfl) (fun q => ((∃ a cap, q.v = .slice a q.when_.length cap ∧ Sl Tst.cells 4 W W.heap.size a q.when_) ∧ ∀ t ∈ q.when_, t.ok) ∧ q.nil0) uCases (by kernel_rfl) (fun n cs' y hy hl => open_case hy hl) hf
  refine ⟨A, c, l, ?_, ⟨h2, fun q hq => (h4 q hq).1⟩, h3, fun q hq => (h4 q hq).2⟩
  simp only [Value.okWide, uCases, Cell.okWide] at hv
  cases v <;> simp_all [Value.cells, Cell.ok]
end
end Go.Proofs.Ytidlmbajpbbilaa

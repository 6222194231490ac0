/- Commentaries: what is wrong at a chart, by the list of the cases that are about it. -/
import Derived.Test.YtidlmbajpbbilaaScSB
import Derived.Test.YtidlmbajpbbilaaZ22CmA
namespace Go.Proofs.Ytidlmbajpbbilaa
open Go.RowKit

/-- the cases among the first j that are about a chart -/
def abP (ch : List Int) (cs : List Cas) (i : Nat) : Bool := (cs[i]?).any fun q => holdsB ch q.when_
def abL (ch : List Int) (cs : List Cas) (j : Nat) : List Nat := (List.range j).filter (abP ch cs)
theorem abP_at {ch : List Int} {cs : List Cas} {i : Nat} (h : i < cs.length) : abP ch cs i = holdsB ch cs[i].when_ := by simp [abP, List.getElem?_eq_getElem h]
theorem abL_succ {ch : List Int} {cs : List Cas} {j : Nat} (h : j < cs.length) : abL ch cs (j + 1) = if holdsB ch cs[j].when_ then abL ch cs j ++ [j] else abL ch cs j := by
  simp only [abL, List.range_succ, List.filter_append, List.filter_cons, List.filter_nil, abP_at h]
  split <;> simp
theorem abL_len {ch : List Int} {cs : List Cas} {j : Nat} : (abL ch cs j).length ≤ j := by
  have := List.length_filter_le (abP ch cs) (List.range j)
  simpa [abL] using this
theorem abL_mem {ch : List Int} {cs : List Cas} {i : Nat} : i ∈ abL ch cs cs.length ↔ i < cs.length ∧ abP ch cs i = true := by simp [abL]
theorem abL_none {ch : List Int} {cs : List Cas} (h : abL ch cs cs.length = []) : firstIdx (fun t : Cas => holdsB ch t.when_) cs = -1 :=
  firstIdx_none _ _ fun k hk => by
    have : ¬ k ∈ abL ch cs cs.length := by rw [h]; simp
    rw [abL_mem, abP_at hk] at this
    simp only [not_and, Bool.not_eq_true] at this
    exact this hk
theorem abL_head {ch : List Int} {cs : List Cas} {a : Nat} {r : List Nat} (h : abL ch cs cs.length = a :: r) : a < cs.length ∧ firstIdx (fun t : Cas => holdsB ch t.when_) cs = (a : Int) ∧ (∀ i, a < i → i < cs.length → (i ∈ r ↔ abP ch cs i = true)) ∧ r.Pairwise (· < ·) ∧ ∀ i ∈ r, a < i ∧ i < cs.length := by
  have hp : (a :: r).Pairwise (· < ·) := by rw [← h]; exact (List.pairwise_lt_range).filter _
  have ha := abL_mem.1 (show a ∈ abL ch cs cs.length by rw [h]; simp)
  have hlt : ∀ i ∈ r, a < i := (List.pairwise_cons.1 hp).1
  refine ⟨ha.1, firstIdx_at _ _ a ha.1 (fun j hj => ?_) (by rw [← abP_at ha.1]; exact ha.2), fun i h1 h2 => ?_, (List.pairwise_cons.1 hp).2, fun i hi => ⟨hlt i hi, (abL_mem.1 (show i ∈ abL ch cs cs.length by rw [h]; simp [hi])).1⟩⟩
  · have hjl : j < cs.length := by omega
    rw [← abP_at hjl]
    cases hc : abP ch cs j with
    | false => rfl
    | true =>
      have hm := abL_mem.2 ⟨hjl, hc⟩
      rw [h] at hm
      rcases List.mem_cons.1 hm with rfl | hm
      · omega
      · have := hlt j hm; omega
  · have h3 : i ∈ a :: r ↔ i < cs.length ∧ abP ch cs i = true := by rw [← h]; exact abL_mem
    constructor
    · intro hi; exact (h3.1 (List.mem_cons_of_mem _ hi)).2
    · intro hi
      rcases List.mem_cons.1 (h3.2 ⟨h2, hi⟩) with rfl | hm
      · omega
      · exact hm
theorem abL_one {ch : List Int} {cs : List Cas} {a : Nat} (h : abL ch cs cs.length = [a]) : firstIdx (fun t : Cas => holdsB ch t.when_) (cs.drop (a + 1)) = -1 := by
  obtain ⟨h1, h2, h3, _, _⟩ := abL_head h
  refine firstIdx_none _ _ fun k hk => ?_
  rw [List.length_drop] at hk
  have hl : a + 1 + k < cs.length := by omega
  have := h3 (a + 1 + k) (by omega) hl
  rw [abP_at hl] at this
  simp only [List.not_mem_nil, false_iff, Bool.not_eq_true] at this
  simpa using this
theorem abL_two {ch : List Int} {cs : List Cas} {a b : Nat} {r : List Nat} (h : abL ch cs cs.length = a :: b :: r) : ∃ j : Nat, firstIdx (fun t : Cas => holdsB ch t.when_) (cs.drop (a + 1)) = (j : Int) ∧ a + 1 + j = b := by
  obtain ⟨h1, h2, h3, h4, h5⟩ := abL_head h
  obtain ⟨hab, hbl⟩ := h5 b (by simp)
  have hlt : ∀ i ∈ r, b < i := (List.pairwise_cons.1 h4).1
  refine ⟨b - (a + 1), firstIdx_at _ _ (b - (a + 1)) (by rw [List.length_drop]; omega) (fun j hj => ?_) ?_, by omega⟩
  · have hl : a + 1 + j < cs.length := by omega
    have := h3 (a + 1 + j) (by omega) hl
    rw [abP_at hl] at this
    have hn : ¬ a + 1 + j ∈ b :: r := fun hm => by
      rcases List.mem_cons.1 hm with e | hm
      · omega
      · have := hlt _ hm; omega
    have h6 : ¬ holdsB ch cs[a + 1 + j].when_ = true := fun e => hn (this.2 e)
    simpa using h6
  · have := (h3 b hab hbl).1 (by simp)
    rw [abP_at hbl] at this
    have e : a + 1 + (b - (a + 1)) = b := by omega
    simpa [e] using this
theorem bset_pow {f : Nat → Bool} {n : Nat} (hn : n < 20) : bset f 20 = 2 ^ n ↔ (List.range 20).filter f = [n] := by
  have key : ∀ n < 20, (List.range 20).filter (fun i => decide (i = n)) = [n] := by decide
  constructor
  · intro h
    rw [← key n hn]
    refine List.filter_congr fun i hi => ?_
    have hi' : i < 20 := by simpa using hi
    have h2 : (bset f 20).testBit i = (2 ^ n).testBit i := by rw [h]
    rw [bset_testBit, Nat.testBit_two_pow] at h2
    simp only [hi', decide_true, Bool.true_and] at h2
    rw [h2]; rw [Bool.eq_iff_iff]; simp; omega
  · intro h
    refine Nat.eq_of_testBit_eq fun i => ?_
    rw [bset_testBit, Nat.testBit_two_pow]
    by_cases hi : i < 20
    · have h2 : i ∈ (List.range 20).filter f ↔ i = n := by rw [h]; simp
      simp only [List.mem_filter, List.mem_range, hi, true_and] at h2
      rw [Bool.eq_iff_iff]; simp [hi, h2]; omega
    · have : ¬ n = i := by omega
      simp [hi, this]
theorem glAt_ab0 {s : Sch} {kind : Int} {cs : List Cas} {k : Nat} (h : abL (chartL s k) cs cs.length = []) : glAt s kind cs k = (-1, 1) := glAt_none (abL_none h)
theorem glAt_ab2 {s : Sch} {kind : Int} {cs : List Cas} {k a b : Nat} {r : List Nat} (h : abL (chartL s k) cs cs.length = a :: b :: r) : glAt s kind cs k = ((b : Int), 2) := by
  obtain ⟨j, h1, h2⟩ := abL_two h
  rw [glAt_two (abL_head h).2.1 h1 (by omega)]
  congr 1; omega
theorem glAt_ab1 {s : Sch} {kind : Int} {cs : List Cas} {k a : Nat} (h : abL (chartL s k) cs cs.length = [a]) (ha : a < cs.length) (h0 : 0 ≤ cs[a].says) (h1 : cs[a].says < 20) : glAt s kind cs k = if ansL s kind k = [cs[a].says.toNat] then (0, 0) else ((a : Int), 3) := by
  rw [glAt_one (abL_head h).2.1 (abL_one h) ha]
  have : (ansN s 0 kind (chartL s k) = 2 ^ cs[a].says.toNat) = (ansL s kind k = [cs[a].says.toNat]) := propext (bset_pow (by omega))
  simp only [this]
end Go.Proofs.Ytidlmbajpbbilaa
namespace Go.Proofs.Ytidlmbajpbbilaa
open Go.RowKit

/-- the error of cases, with the length -/
def casesX (s : Sch) (cs : List Cas) : Int := if cs.length ≤ 40 then (if cs.all (casB s) then 0 else 4) else 5
set_option maxRecDepth 100000 in
set_option maxHeartbeats 2000000 in
theorem rcases_any (s : Sch) (cs : List Cas) (A : Option Addr) (c : Nat) (w : World) (hs : Small s) (ha1 : 1 ≤ s.answers) (ha2 : s.answers ≤ 20) (hr : CasRead w w.heap.size A cs) :
    Calls Try.prog 29 #[scv s s.rv, .slice A cs.length c] w fun e w' => e = .returned (.int .i64 (casesX s cs)) ∧ Below w.heap.size w w' := by
  by_cases h40 : cs.length ≤ 40
  · have HX : Hid (casesX s cs = if cs.all (casB s) then 0 else 4) := (by simp [casesX, h40] : casesX s cs = if cs.all (casB s) then 0 else 4)
    have d0 : decide (40 < (cs.length : Int)) = false := by simp; omega
    have HR := Lib.hid hr
    clear hr
    go_enter Try.func29, Try.ntmps29
    go_wp2
    clear d0
    refine wp_world (fun W => Below w.heap.size w W ∧ w.heap.size < W.heap.size ∧ Blk W w.heap.size #[.int .i64 s.places, .int .i64 s.signs, .int .i64 s.kinds, .int .i64 s.answers, s.rv] 24) ⟨(Below.refl _ _).alloc (Nat.le_refl _) _, by simp, Blk.at_ rfl⟩ ?_
    rintro w0 ⟨hbw, hz0, g0⟩
    go_loopw [5] (fun i wr => ∃ j : Nat, j ≤ cs.length ∧ i = .int .i64 j ∧ Below w0.heap.size w0 wr ∧ Hid (cs.all (casB s) = (cs.drop j).all (casB s))) (fun i _ => cs.length - (intOf i).toNat)
    case atStart => exact ⟨0, by omega, rfl, Below.refl _ _, rfl⟩
    case round =>
      obtain ⟨j, hj, rfl, hb, HA⟩ := hrel
      have hsz := hb.size
      have hbr : Below w.heap.size w wr := hbw.trans (hb.mono (by omega))
      have gc := (g0.below hb (by omega)).cell
      have s0 := gc 0; have s1 := gc 1; have s2 := gc 2; have s3 := gc 3; have s4 := gc 4
      simp at s0 s1 s2 s3 s4
      have l0 : w.heap.size < wr.heap.size := by omega
      clear gc
      by_cases hlt : j < cs.length
      · have hrr := HR.out.below hbr
        obtain ⟨ab, ao, rfl, hblk, hcell⟩ := hrr.1.at_ (k := j) (fun _ => rfl) hlt
        have HD := Lib.hid (all_drop (p := casB s) hlt)
        obtain ⟨⟨qa, qc, hqv, hq1⟩, hq2, hq3⟩ := hrr.2.2 _ (List.getElem_mem hlt)
        obtain ⟨q, hqe⟩ : ∃ t, cs[j] = t := ⟨_, rfl⟩
        rw [hqe] at hcell HD hqv hq1 hq2 hq3
        obtain ⟨qv, ts, says⟩ := q
        simp only at hqv hq1 hq2 hq3
        subst hqv
        have cw0 : wr.cell? ⟨ab, ao + j * 2, none⟩ = some (Value.slice qa ts.length qc) := hcell 0 _ rfl
        have cw1 : wr.cell? ⟨ab, ao + j * 2 + 1, none⟩ = some (Value.int .i64 says) := hcell 1 _ rfl
        have hj0 : (0 : Int) ≤ (j : Int) := by omega
        have hj1 : (j : Int) < (cs.length : Int) := by omega
        have hw1 : IntKind.i64.wrap (s.answers - 1) = s.answers - 1 := IntWalk.i64_in _ (by omega)
        clear hcell hrr hqe
        have hcb : Hid (casB s ⟨.slice qa ts.length qc, ts, says⟩ = (testsB s ts && inB says 0 (s.answers - 1))) := (rfl : casB s ⟨.slice qa ts.length qc, ts, says⟩ = _)
        cases hts : testsB s ts with
        | false =>
          have HT : Hid (casesX s cs = 4) := (by rw [HX.out, HA.out, HD.out, hcb.out, hts]; simp : casesX s cs = 4)
          have HTS : ∀ W, Below wr.heap.size wr W → Hid (Calls Try.prog 61 #[scv s s.rv, .slice qa ts.length qc] W fun e w' => e = .returned (.bool false) ∧ Below W.heap.size W w') := fun W hW => by
            have h := rtests_any s s.rv qa qc ts W hs hq2 hq3 ((hq1.below (hW.mono (by omega))).more (by have := hW.size; omega))
            rw [hts] at h
            exact h
          go_wp2
          (refine wp_region_ext (by kernel_rfl) (by kernel_rfl) ?_; (repeat (go_big_quiet_step((first | (go_at_call 61; with_reducible exact Calls.ext_of (HTS _ (Grow.h _)).out) | (go_at_call 60; exact Calls.ext_same (rin_val (by assumption) _)))))); with_reducible refine wpQuiet_nil ?_; intro w2 hw2; have hb1 := ext_below hw2; clear hw2)
          go_wp2
          go_ret
          exact ⟨ret_int HT.out.symm, hbr.trans (hb1.mono hbr.size)⟩
        | true =>
          cases hin : inB says 0 (s.answers - 1) with
          | false =>
            have HT : Hid (casesX s cs = 4) := (by rw [HX.out, HA.out, HD.out, hcb.out, hts, hin]; simp : casesX s cs = 4)
            have HTS : ∀ W, Below wr.heap.size wr W → Hid (Calls Try.prog 61 #[scv s s.rv, .slice qa ts.length qc] W fun e w' => e = .returned (.bool true) ∧ Below W.heap.size W w') := fun W hW => by
              have h := rtests_any s s.rv qa qc ts W hs hq2 hq3 ((hq1.below (hW.mono (by omega))).more (by have := hW.size; omega))
              rw [hts] at h
              exact h
            go_wp2
            (refine wp_region_ext (by kernel_rfl) (by kernel_rfl) ?_; (repeat (go_big_quiet_step((first | (go_at_call 61; with_reducible exact Calls.ext_of (HTS _ (Grow.h _)).out) | (go_at_call 60; exact Calls.ext_same (rin_val (by assumption) _)))))); with_reducible refine wpQuiet_nil ?_; intro w2 hw2; have hb1 := ext_below hw2; clear hw2)
            go_wp2
            go_ret
            exact ⟨ret_int HT.out.symm, hbr.trans (hb1.mono hbr.size)⟩
          | true =>
            have HT : Hid (cs.all (casB s) = (cs.drop (j + 1)).all (casB s)) := (by rw [HA.out, HD.out, hcb.out, hts, hin]; simp : cs.all (casB s) = (cs.drop (j + 1)).all (casB s))
            have HTS : ∀ W, Below wr.heap.size wr W → Hid (Calls Try.prog 61 #[scv s s.rv, .slice qa ts.length qc] W fun e w' => e = .returned (.bool true) ∧ Below W.heap.size W w') := fun W hW => by
              have h := rtests_any s s.rv qa qc ts W hs hq2 hq3 ((hq1.below (hW.mono (by omega))).more (by have := hW.size; omega))
              rw [hts] at h
              exact h
            go_wp2
            (refine wp_region_ext (by kernel_rfl) (by kernel_rfl) ?_; (repeat (go_big_quiet_step((first | (go_at_call 61; with_reducible exact Calls.ext_of (HTS _ (Grow.h _)).out) | (go_at_call 60; exact Calls.ext_same (rin_val (by assumption) _)))))); with_reducible refine wpQuiet_nil ?_; intro w2 hw2; have hb1 := ext_below hw2; clear hw2)
            go_wp2
            go_roundw
            case rel => exact ⟨j + 1, by omega, by go_num, hb.trans (hb1.mono hsz), HT⟩
            case measure => simp [intOf]; omega
      · have HT : Hid (casesX s cs = 0) := (by rw [HX.out, HA.out, List.drop_eq_nil_of_le (by omega)]; rfl : casesX s cs = 0)
        go_wp2
        go_ret
        exact ⟨ret_int HT.out.symm, hbr⟩
  · have HX : Hid (casesX s cs = 5) := (by simp [casesX, h40] : casesX s cs = 5)
    have d0 : decide (40 < (cs.length : Int)) = true := by simp; omega
    go_enter Try.func29, Try.ntmps29
    go_wp2
    go_ret
    exact ⟨ret_int HX.out.symm, by (repeat (first | exact Below.refl _ _ | assumption | (refine Below.alloc ?_ (by first | omega | (simp; omega) | (simp; done)) _) | (refine Below.setCell ?_ (by first | omega | (simp; omega) | (simp; done)) _) | (refine Below.drew ?_) | (refine belowN ?_ _) | (refine Below.trans ?_ (Below.mono ‹Below _ _ _› (by first | omega | (simp; omega) | (simp; done))))))⟩
end Go.Proofs.Ytidlmbajpbbilaa
namespace Go.Proofs.Ytidlmbajpbbilaa
open Go.RowKit

/-- first, at, fault -/
def glossP (s : Sch) (kind : Int) (cs : List Cas) : Int × Int × Int :=
  if glossN s kind cs < 0 then (-1, -1, 0) else (glossN s kind cs, (glAt s kind cs (glossN s kind cs).toNat).1, (glAt s kind cs (glossN s kind cs).toNat).2)
def badG (s : Sch) (kind : Int) (cs : List Cas) (k : Nat) : Bool := (glAt s kind cs k).2 != 0
theorem glossP_at {s : Sch} {kind : Int} {cs : List Cas} {k : Nat} {x y : Int} (hk : k < chartsC s) (hn : ∀ j, j < k → badG s kind cs j = false) (h : glAt s kind cs k = (x, y)) (hy : y ≠ 0) : glossP s kind cs = ((k : Int), x, y) := by
  have h1 : glossN s kind cs = (k : Int) := firstN_at hk hn (by simp [h, hy])
  unfold glossP
  rw [h1, if_neg (by omega)]
  simp [h]
theorem glossP_none {s : Sch} {kind : Int} {cs : List Cas} (hn : ∀ j, j < chartsC s → badG s kind cs j = false) : glossP s kind cs = (-1, -1, 0) := by
  have h1 : glossN s kind cs = -1 := firstN_none hn
  unfold glossP
  rw [h1, if_pos (by omega)]
/-- the cases about a chart, as they are kept -/
def abI (ch : List Int) (cs : List Cas) (j : Nat) : List Int := (abL ch cs j).map fun (i : Nat) => (i : Int)
theorem abI_len {ch : List Int} {cs : List Cas} {j : Nat} : (abI ch cs j).length ≤ j := by simpa [abI] using abL_len
set_option maxRecDepth 100000 in
set_option maxHeartbeats 8000000 in
theorem rgloss_any (s : Sch) (V : Valid s) (V3 : ∀ r ∈ s.rules, ∀ t ∈ r.when_, TestFit3 s.places.toNat t) (kind : Int) (cs : List Cas) (A : Option Addr) (c : Nat) (w : World) (hr : s.reads w w.heap.size) (hA : CasRead w w.heap.size A cs)
    (m0 : 0 ≤ kind) (m1 : kind < s.kinds) (hl : cs.length ≤ 40) (hc : cs.all (casB s) = true) :
    Calls Try.prog 30 #[scv s s.rv, .int .i64 kind, .slice A cs.length c] w fun e w' => e = .returned (.tuple #[.int .i64 (glossP s kind cs).1, .int .i64 (glossP s kind cs).2.1, .int .i64 (glossP s kind cs).2.2]) ∧ Below w.heap.size w w' := by
  obtain ⟨i1, hi1, iz0, iz1, iz2⟩ := info_parts infoInt
  have HRR := Lib.hid hr; have HAA := Lib.hid hA; have HV := Lib.hid V; have H3 := Lib.hid V3; have HC := Lib.hid hc
  have hsm := V.small
  have hc4 := V.charts
  have han := V.answers
  have HCI := Lib.hid (chartsC_int V)
  clear hr hA V V3 hc
  go_enter Try.func30, Try.ntmps30
  go_wp2
  refine wp_world (fun W => Below w.heap.size w W ∧ w.heap.size < W.heap.size ∧ Blk W w.heap.size #[.int .i64 s.places, .int .i64 s.signs, .int .i64 s.kinds, .int .i64 s.answers, s.rv] 24) ⟨(Below.refl _ _).alloc (Nat.le_refl _) _, by simp, Blk.at_ rfl⟩ ?_
  rintro w0 ⟨hbw, hz0, g0⟩
  go_loopw [9] (fun i wr => ∃ k : Nat, k ≤ chartsC s ∧ i = .int .i64 k ∧ Below w0.heap.size w0 wr ∧ Hid (∀ j, j < k → badG s kind cs j = false)) (fun i _ => chartsC s - (intOf i).toNat)
  case atStart => exact ⟨0, by omega, rfl, Below.refl _ _, fun j hj => by omega⟩
  case round =>
    obtain ⟨k, hkc, rfl, hb, HN⟩ := hrel
    have hsz := hb.size
    have hbr : Below w.heap.size w wr := hbw.trans (hb.mono (by omega))
    have g0r := g0.below hb (by omega)
    have g0 := g0r
    have q0 := g0.cell; have p0 := q0 0; have p1 := q0 1; have p2 := q0 2; have p3 := q0 3; have p4 := q0 4
    simp at p0 p1 p2 p3 p4
    clear q0
    have hcin := HCI.out
    by_cases hlk : k < chartsC s
    · have d : decide ((k : Int) < chartsN s.signs s.places.toNat) = true := by simp; omega
      have hk4 : (k : Int) ≤ 4096 := by omega
      have hln : Hid ((chartL s k).length = s.places.toNat) := (digits_len _ _ _ : (chartL s k).length = s.places.toNat)
      clear hcin
      go_wp2_with (first | (go_at_call 40; refine (rcharts_any s s.rv hsm _).mono ?_; rintro _ Wa ⟨rfl, hba⟩; have q0 := (g0.below hba g0.lt).cell; have p0 := q0 0; have p1 := q0 1; have p2 := q0 2; have p3 := q0 3; have p4 := q0 4; simp at p0 p1 p2 p3 p4) |
        (go_at_call 41; refine (rchart_any s s.rv k hsm (by omega) hk4 _).mono ?_; rintro _ Wb ⟨v, rfl, hown, hbb⟩; refine Hid.out ?_))
      have hx : Below wr.heap.size wr Wb := bl2 hba hbb
      have hxw : Below w.heap.size w Wb := bl2 hbr hx
      have hxb : Below w0.heap.size w0 Wb := hb.trans (hx.mono hsz)
      obtain ⟨A', c', rfl, hA'⟩ := Sl.of_own hown
      have HA' := Lib.hid hA'
      have g0 := g0r.below hx (by omega)
      have l0 := g0.lt
      clear hown hA' hba hbb d g0r p0 p1 p2 p3 p4
      obtain ⟨ch, hch⟩ : ∃ ch, ch = chartL s k := ⟨_, rfl⟩
      have HCH := Lib.hid hch
      rw [← hch] at HA' hln ⊢
      clear hch
      refine Lib.hid ?_
      go_wp2
      refine gen_w (fun W => Below Wb.heap.size Wb W ∧ Wb.heap.size < W.heap.size ∧ W.ownsRow Wb.heap.size 3 1 (.slice (some ⟨Wb.heap.size, 0, none⟩) 0 0) 0 []) ⟨by (repeat (first | exact Below.refl _ _ | assumption | (refine Below.alloc ?_ (by first | omega | (simp; omega) | (simp; done)) _) | (refine Below.setCell ?_ (by first | omega | (simp; omega) | (simp; done)) _) | (refine Below.drew ?_) | (refine belowN ?_ _) | (refine Below.trans ?_ (Below.mono ‹Below _ _ _› (by first | omega | (simp; omega) | (simp; done)))))), by simp, by
        have := World.ownsRow_made (e := 3) (size := 1) Wb #[] 0 (base := Wb.heap.size) (by simp) (by simp) (by simp)
        simpa using this⟩ ?_
      rintro W1 ⟨hb1, hz1, hown1⟩
      have HO1 := Lib.hid hown1
      clear hown1
      go_loopw [11, 12] (fun v i wr => ∃ j : Nat, j ≤ cs.length ∧ i = .int .i64 j ∧ Below Wb.heap.size Wb wr ∧ Wb.heap.size < wr.heap.size ∧ Hid (wr.ownsRow Wb.heap.size 3 1 v (abI ch cs j).length (flat intCell (abI ch cs j)))) (fun _ i _ => cs.length - (intOf i).toNat)
      case atStart => exact ⟨0, by omega, rfl, hb1, hz1, HO1⟩
      case round =>
        obtain ⟨j, hj, rfl, hbi, hzi, hown⟩ := hrel
        have hbiw : Below w.heap.size w wr := bl2 hxw hbi
        by_cases hlt : j < cs.length
        · have hrr := HAA.out.below hbiw
          obtain ⟨ab, ao, rfl, hblk, hcell⟩ := hrr.1.at_ (k := j) (fun _ => rfl) hlt
          have HD := Lib.hid (abL_succ (ch := ch) hlt)
          obtain ⟨⟨qa, qc, hqv, hq1⟩, hq2, hq3⟩ := hrr.2.2 _ (List.getElem_mem hlt)
          have hcb := List.all_eq_true.1 HC.out _ (List.getElem_mem hlt)
          obtain ⟨q, hqe⟩ : ∃ t, cs[j] = t := ⟨_, rfl⟩
          rw [hqe] at hcell HD hqv hq1 hq2 hq3 hcb
          obtain ⟨qv, ts, says⟩ := q
          simp only at hqv hq1 hq2 hq3
          subst hqv
          have cw0 : wr.cell? ⟨ab, ao + j * 2, none⟩ = some (Value.slice qa ts.length qc) := hcell 0 _ rfl
          have hj0 : (0 : Int) ≤ (j : Int) := by omega
          have hj1 : (j : Int) < (cs.length : Int) := by omega
          have hft : ∀ t ∈ ts, TestFit3 s.places.toNat t := fun t ht => by
            simp only [casB, testsB, Bool.and_eq_true, List.all_eq_true] at hcb
            exact tstB_fit3 (hq3 t ht) hsm.1 (hcb.1.2 t ht)
          have HRH := Lib.hid (rholds_any qa A' qc c' ch ts wr s.places.toNat hln.out.symm hq2 hft (by rw [HCH.out]; exact chartL_bd HV.out k) (hq1.more hbiw.size) ((HA'.out.below hbi).more hbi.size))
          clear hcell hrr hqe hq1 hft hcb
          cases hh : holdsB ch ts with
          | false =>
            rw [hh] at HRH HD
            go_wp2_with (go_at_call 71; refine HRH.out.mono ?_; rintro _ Wc ⟨rfl, hbc⟩)
            go_roundw
            case rel => exact ⟨j + 1, by omega, by go_num, bl2 hbi hbc, by have := hbc.size; omega, by
              have e : abI ch cs (j + 1) = abI ch cs j := by simp only [abI, HD.out]; rfl
              rw [e]
              exact hown.out.kept (grown_of_below hbc) (by cases hv : u11.ownBlock <;> simp)⟩
            case measure => simp [intOf]; omega
          | true =>
            rw [hh] at HRH HD
            have hal : (abI ch cs j).length ≤ j := abI_len
            go_wp2_with (first | (go_at_call 71; refine HRH.out.mono ?_; rintro _ Wc ⟨rfl, hbc⟩; have how := hown.out.kept (grown_of_below hbc) (by cases hv : u11.ownBlock <;> simp); have HOW := Lib.hid how; clear how; have hzc := hbc.size; have HC5 : Hid (∀ (i : Nat) (u : Value), [Value.int .i64 (j : Int)][i]? = some u → (Wc.alloc (.cells #[.int .i64 (j : Int)] 3)).cell? ((⟨Wc.heap.size, 0, none⟩ : Addr).add i) = some u) := (fun i u hu => (by rw [Go.WideShapes.add_plain, Nat.zero_add, (Blk.new Wc _ _).cell i, ← hu]; simp))) |
              (at_builtin; refine wpList_append_own _ rfl _ _ 28 rfl Wb.heap.size 3 i1 (.int .i64 0) 1 8 uInts hi1 iz0 iz1 iz2 rfl (by decide) _ _ _ rfl (HOW.out.alloc _) ⟨Wc.heap.size, 0, none⟩ 1 1 [.int .i64 (j : Int)] rfl rfl HC5.out (by simp [Value.oneCell']) (by unfold maxLen; omega) (by omega) (by simp; omega) ?_; intro v' w5 hown5 hgrow _))
            have hb45 : Below Wb.heap.size Wb w5 := (((bl2 hbi hbc).alloc (by omega) _).grown hgrow (by simp; omega) (fun g hg => own_ge hown.out hg))
            have hbz5 : Wc.heap.size < w5.heap.size := by have := hgrow.size; simp at this; omega
            go_wp2
            go_roundw
            case rel => exact ⟨j + 1, by omega, by go_num, hb45, by omega, by
              have e : abI ch cs (j + 1) = abI ch cs j ++ [(j : Int)] := by simp only [abI, HD.out]; simp
              rw [e]
              show World.ownsRow _ _ _ _ _ _ _
              simpa [flat] using hown5⟩
            case measure => simp [intOf]; omega
        · obtain rfl : j = cs.length := by omega
          obtain ⟨A2, c2, rfl, hs2⟩ := Sl.of_own hown.out
          have g0 := g0.below hbi (by omega)
          have q0 := g0.cell; have p0 := q0 0; have p1 := q0 1; have p2 := q0 2; have p3 := q0 3; have p4 := q0 4
          simp at p0 p1 p2 p3 p4
          clear q0
          rcases hm : abL ch cs cs.length with _ | ⟨a, _ | ⟨b, r⟩⟩
          · have hI : abI ch cs cs.length = [] := by simp [abI, hm]
            have hG : Hid (glossP s kind cs = ((k : Int), -1, 1)) := (glossP_at hlk HN.out (glAt_ab0 (by rw [← HCH.out]; exact hm)) (by omega) : glossP s kind cs = ((k : Int), -1, 1))
            rw [hI, List.length_nil]
            clear hm hown hs2 hI
            go_wp2
            refine bodyPost_ret (v := .tuple #[.int .i64 k, .int .i64 (-1), .int .i64 1]) (by simp [results, Try.results30, go_sem]) rfl ?_
            exact ⟨by rw [hG.out], hbiw⟩
          · have hI : abI ch cs cs.length = [(a : Int)] := by simp [abI, hm]
            rw [hI] at hs2
            obtain ⟨yb, yo, rfl, hyb, hyc⟩ := hs2.at_ (k := 0) (fun _ => rfl) (by simp)
            have y0 : wr.cell? ⟨yb, yo, none⟩ = some (.int .i64 (a : Int)) := by have := hyc 0 _ rfl; simpa using this
            have hal := (abL_head hm).1
            have hrr := HAA.out.below hbiw
            obtain ⟨ab, ao, rfl, hblk, hcell⟩ := hrr.1.at_ (k := a) (fun _ => rfl) hal
            have hcb := List.all_eq_true.1 HC.out _ (List.getElem_mem hal)
            simp only [casB, Bool.and_eq_true, inB_iff] at hcb
            have hgl := glAt_ab1 (s := s) (kind := kind) (k := k) (by rw [← HCH.out]; exact hm) hal hcb.2.1 (by omega)
            obtain ⟨q, hqe⟩ : ∃ t, cs[a] = t := ⟨_, rfl⟩
            rw [hqe] at hcell hcb hgl
            have cw1 : wr.cell? ⟨ab, ao + a * 2 + 1, none⟩ = some (Value.int .i64 q.says) := hcell 1 _ rfl
            obtain ⟨says, hsy⟩ : ∃ x, q.says = x := ⟨_, rfl⟩
            rw [hsy] at cw1 hcb hgl
            have ha0 : (0 : Int) ≤ (a : Int) := by omega
            have ha1 : (a : Int) < (cs.length : Int) := by omega
            have hsy0 : 0 ≤ says := hcb.2.1
            have hsy1 : says < 20 := by omega
            have HGL := Lib.hid hgl
            obtain ⟨kd, RQ, RM, hRP⟩ : ∃ a b c, readP s kind ch = (a, b, c) := ⟨_, _, _, rfl⟩
            have HRP := Lib.hid hRP
            have HRD := Lib.hid (rread_any s HV.out H3.out ch kind A' c' _ wr ((HRR.out.below hbiw).more hbiw.size) m0 m1 hln.out rfl (by rw [HCH.out]; exact chartL_bd HV.out k) ((HA'.out.below hbi).more hbi.size))
            rw [hRP] at HRD
            rw [hI]
            clear hcell hrr hqe hcb hgl hRP hyc hs2 hown hI hm hsy
            go_wp2_with (go_at_call 44; refine HRD.out.mono ?_; rintro _ Wd ⟨Y1, y1, Z1, z1, rfl, hY1, hZ1, hbd⟩; refine Hid.out ?_)
            have z0 := (hbd.cell (p := ⟨yb, yo, none⟩) hyb).trans y0
            have zw1 := (hbd.cell (p := ⟨ab, ao + a * 2 + 1, none⟩) (by show ab < _; omega)).trans cw1
            have hbdw : Below w.heap.size w Wd := bl2 hbiw hbd
            have hbd0 : Below Wb.heap.size Wb Wd := bl2 hbi hbd
            have HY := Lib.hid hY1
            have hyb' : yb < Wd.heap.size := by have := hbd.size; omega
            have hab' : ab < Wd.heap.size := by have := hbd.size; omega
            clear hY1 hZ1 y0 cw1 HRD p0 p1 p2 p3 p4
            refine Lib.hid ?_
            have hkd : Hid (kd = kdAt s kind k) := (by have h := HRP.out; rw [HCH.out] at h; rw [← readP_kind, h] : kd = kdAt s kind k)
            rcases kindOf_cases (ansL s kind k) with h2 | h2 | h2
            · obtain rfl : kd = 2 := hkd.out.trans h2
              have hgl := HGL.out
              have hne : ansL s kind k ≠ [says.toNat] := fun e => by rw [e] at h2; simp [kindOf] at h2
              rw [if_neg hne] at hgl
              have hG : Hid (glossP s kind cs = ((k : Int), (a : Int), 3)) := (glossP_at hlk HN.out hgl (by omega) : glossP s kind cs = ((k : Int), (a : Int), 3))
              clear hgl hne h2 hkd HGL
              go_wp2
              refine gen_w (fun W => Below Wd.heap.size Wd W ∧ Blk W Wd.heap.size #[.int .i64 2, .slice Y1 RQ.length y1, .slice Z1 RM.length z1] 73) ⟨by (repeat (first | exact Below.refl _ _ | assumption | (refine Below.alloc ?_ (by first | omega | (simp; omega) | (simp; done)) _) | (refine Below.setCell ?_ (by first | omega | (simp; omega) | (simp; done)) _) | (refine Below.drew ?_) | (refine belowN ?_ _) | (refine Below.trans ?_ (Below.mono ‹Below _ _ _› (by first | omega | (simp; omega) | (simp; done)))))), Blk.new _ _ _⟩ ?_
              rintro We ⟨hbe, gr⟩
              have hwe : Below w.heap.size w We := bl2 hbdw hbe
              have r0 := gr.cell 0; have r1 := gr.cell 1
              simp at r0 r1
              have z0 := (hbe.cell (p := ⟨yb, yo, none⟩) hyb').trans z0
              clear HY
              go_region
              all_goals (go_wp2)
              all_goals (go_region)
              all_goals (
                go_wp2
                refine bodyPost_ret (v := .tuple #[.int .i64 k, .int .i64 a, .int .i64 3]) (by simp [results, Try.results30, go_sem]) rfl ?_
                exact ⟨by rw [hG.out], by (repeat (first | exact Below.refl _ _ | assumption | (refine Below.alloc ?_ (by first | omega | (simp; omega) | (simp; done)) _) | (refine Below.setCell ?_ (by first | omega | (simp; omega) | (simp; done)) _) | (refine Below.drew ?_) | (refine belowN ?_ _) | (refine Below.trans ?_ (Below.mono ‹Below _ _ _› (by first | omega | (simp; omega) | (simp; done))))))⟩)
            · obtain rfl : kd = 3 := hkd.out.trans h2
              have hgl := HGL.out
              have hne : ansL s kind k ≠ [says.toNat] := fun e => by rw [e] at h2; simp [kindOf] at h2
              rw [if_neg hne] at hgl
              have hG : Hid (glossP s kind cs = ((k : Int), (a : Int), 3)) := (glossP_at hlk HN.out hgl (by omega) : glossP s kind cs = ((k : Int), (a : Int), 3))
              clear hgl hne h2 hkd HGL
              go_wp2
              refine gen_w (fun W => Below Wd.heap.size Wd W ∧ Blk W Wd.heap.size #[.int .i64 3, .slice Y1 RQ.length y1, .slice Z1 RM.length z1] 73) ⟨by (repeat (first | exact Below.refl _ _ | assumption | (refine Below.alloc ?_ (by first | omega | (simp; omega) | (simp; done)) _) | (refine Below.setCell ?_ (by first | omega | (simp; omega) | (simp; done)) _) | (refine Below.drew ?_) | (refine belowN ?_ _) | (refine Below.trans ?_ (Below.mono ‹Below _ _ _› (by first | omega | (simp; omega) | (simp; done)))))), Blk.new _ _ _⟩ ?_
              rintro We ⟨hbe, gr⟩
              have hwe : Below w.heap.size w We := bl2 hbdw hbe
              have r0 := gr.cell 0; have r1 := gr.cell 1
              simp at r0 r1
              have z0 := (hbe.cell (p := ⟨yb, yo, none⟩) hyb').trans z0
              clear HY
              go_region
              all_goals (go_wp2)
              all_goals (go_region)
              all_goals (
                go_wp2
                refine bodyPost_ret (v := .tuple #[.int .i64 k, .int .i64 a, .int .i64 3]) (by simp [results, Try.results30, go_sem]) rfl ?_
                exact ⟨by rw [hG.out], by (repeat (first | exact Below.refl _ _ | assumption | (refine Below.alloc ?_ (by first | omega | (simp; omega) | (simp; done)) _) | (refine Below.setCell ?_ (by first | omega | (simp; omega) | (simp; done)) _) | (refine Below.drew ?_) | (refine belowN ?_ _) | (refine Below.trans ?_ (Below.mono ‹Below _ _ _› (by first | omega | (simp; omega) | (simp; done))))))⟩)
            · obtain ⟨y, hy⟩ := kindOf_one h2
              obtain rfl : kd = 1 := hkd.out.trans h2
              have hRQ : RQ = [(y : Int)] := by
                have h := HRP.out
                have h3 : (readP s kind ch).2.1 = RQ := by rw [h]
                rw [← h3, HCH.out]
                show bitsOf (ansN s 0 kind (chartL s k)) = _
                rw [bitsOf_ans, show (List.range 20).filter (ansOf s 0 kind (chartL s k)) = [y] from hy]; rfl
              subst hRQ
              obtain ⟨xb, xo, rfl, hxb', hxc⟩ := HY.out.at_ (k := 0) (fun _ => rfl) (by simp)
              have x0 : Wd.cell? ⟨xb, xo, none⟩ = some (.int .i64 (y : Int)) := by have := hxc 0 _ rfl; simpa using this
              go_wp2
              refine gen_w (fun W => Below Wd.heap.size Wd W ∧ Blk W Wd.heap.size #[.int .i64 1, .slice (some ⟨xb, xo, none⟩) 1 y1, .slice Z1 RM.length z1] 73) ⟨by (repeat (first | exact Below.refl _ _ | assumption | (refine Below.alloc ?_ (by first | omega | (simp; omega) | (simp; done)) _) | (refine Below.setCell ?_ (by first | omega | (simp; omega) | (simp; done)) _) | (refine Below.drew ?_) | (refine belowN ?_ _) | (refine Below.trans ?_ (Below.mono ‹Below _ _ _› (by first | omega | (simp; omega) | (simp; done)))))), Blk.new _ _ _⟩ ?_
              rintro We ⟨hbe, gr⟩
              have hwe : Below w.heap.size w We := bl2 hbdw hbe
              have r0 := gr.cell 0; have r1 := gr.cell 1
              simp at r0 r1
              have x0 := (hbe.cell (p := ⟨xb, xo, none⟩) hxb').trans x0
              have z0 := (hbe.cell (p := ⟨yb, yo, none⟩) hyb').trans z0
              have zw1 := (hbe.cell (p := ⟨ab, ao + a * 2 + 1, none⟩) hab').trans zw1
              by_cases hys : (y : Int) = says
              · have hgl := HGL.out
                rw [hy, if_pos (by congr 1; omega)] at hgl
                have hno : Hid (badG s kind cs k = false) := (by simp [badG, hgl] : badG s kind cs k = false)
                have n1 : ((y : Int) != says) = false := by simp [hys]
                have n2 : ((y : Int) == says) = true := by simp [hys]
                clear hgl hy h2 hkd HGL hxc HY
                go_region
                all_goals (
                  go_wp2
                  go_roundw
                  case rel => exact ⟨k + 1, by omega, by go_num, hxb.trans (((bl2 hbd0 hbe).drew).mono (by have := hxb.size; omega)), upto_succ HN hno.out⟩
                  case measure => simp [intOf]; omega)
              · have hgl := HGL.out
                rw [hy, if_neg (by simp; omega)] at hgl
                have hG : Hid (glossP s kind cs = ((k : Int), (a : Int), 3)) := (glossP_at hlk HN.out hgl (by omega) : glossP s kind cs = ((k : Int), (a : Int), 3))
                have n1 : ((y : Int) != says) = true := by simp [hys]
                have n2 : ((y : Int) == says) = false := by simp [hys]
                clear hgl hy h2 hkd HGL hxc HY
                go_region
                all_goals (go_wp2)
                all_goals (go_region)
                all_goals (
                  go_wp2
                  refine bodyPost_ret (v := .tuple #[.int .i64 k, .int .i64 a, .int .i64 3]) (by simp [results, Try.results30, go_sem]) rfl ?_
                  exact ⟨by rw [hG.out], by (repeat (first | exact Below.refl _ _ | assumption | (refine Below.alloc ?_ (by first | omega | (simp; omega) | (simp; done)) _) | (refine Below.setCell ?_ (by first | omega | (simp; omega) | (simp; done)) _) | (refine Below.drew ?_) | (refine belowN ?_ _) | (refine Below.trans ?_ (Below.mono ‹Below _ _ _› (by first | omega | (simp; omega) | (simp; done))))))⟩)
          · have hI : abI ch cs cs.length = (a : Int) :: (b : Int) :: r.map (fun (i : Nat) => (i : Int)) := by simp [abI, hm]
            rw [hI] at hs2
            obtain ⟨yb, yo, rfl, hyb, hyc⟩ := hs2.at_ (k := 1) (fun _ => rfl) (by simp)
            have y1 : wr.cell? ⟨yb, yo + 1, none⟩ = some (.int .i64 (b : Int)) := by have := hyc 0 _ rfl; simpa using this
            have hG : Hid (glossP s kind cs = ((k : Int), (b : Int), 2)) := (glossP_at hlk HN.out (glAt_ab2 (by rw [← HCH.out]; exact hm)) (by omega) : glossP s kind cs = ((k : Int), (b : Int), 2))
            obtain ⟨L, hL⟩ : ∃ L, L = ((a : Int) :: (b : Int) :: r.map (fun (i : Nat) => (i : Int))).length := ⟨_, rfl⟩
            rw [hI, ← hL]
            have e1 : 1 < L := by rw [hL]; simp
            have e2 : (1 : Int) < (L : Int) := by omega
            have n0 : ((L : Int) == 0) = false := by simp; omega
            have n1 : ((L : Int) == 1) = false := by simp; omega
            clear hm hown hs2 hI hL hyc
            go_wp2
            go_region
            all_goals (
              go_wp2
              refine bodyPost_ret (v := .tuple #[.int .i64 k, .int .i64 b, .int .i64 2]) (by simp [results, Try.results30, go_sem]) rfl ?_
              exact ⟨by rw [hG.out], hbiw.drew⟩)
    · obtain rfl : k = chartsC s := by omega
      have d : decide (((chartsC s : Nat) : Int) < chartsN s.signs s.places.toNat) = false := by simp; omega
      have hG : Hid (glossP s kind cs = (-1, -1, 0)) := (glossP_none HN.out : glossP s kind cs = (-1, -1, 0))
      clear hcin
      go_wp2_with (go_at_call 40; refine (rcharts_any s s.rv hsm _).mono ?_; rintro _ Wa ⟨rfl, hba⟩)
      refine bodyPost_ret (v := .tuple #[.int .i64 (-1), .int .i64 (-1), .int .i64 0]) (by simp [results, Try.results30, go_sem]) rfl ?_
      exact ⟨by rw [hG.out], bl2 hbr hba⟩
end Go.Proofs.Ytidlmbajpbbilaa

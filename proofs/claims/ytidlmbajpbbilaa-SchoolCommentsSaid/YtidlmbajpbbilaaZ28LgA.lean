/- The law SchoolGlosses: the walk. -/
import Derived.Test.YtidlmbajpbbilaaRgG
import Derived.Test.YtidlmbajpbbilaaZ26ToA
import Derived.Test.YtidlmbajpbbilaaZ25LwA
import Derived.Test.YtidlmbajpbbilaaScSC
import Derived.Test.YtidlmbajpbbilaaZ24CmB
namespace Go.Proofs.Ytidlmbajpbbilaa
open Go.RowKit

theorem glossR_k {s : Sch} {kind : Int} {cs : List Cas} (h : schB s = true) (h1 : inB kind 0 (s.kinds - 1) = false) : glossR s kind cs = (0, 0, 0, 7) := by simp [glossR, h, h1]
theorem glossR_ok {s : Sch} {kind : Int} {cs : List Cas} (h : schB s = true) (hk : inB kind 0 (s.kinds - 1) = true) (h1 : casesX s cs = 0) : glossR s kind cs = ((glossP s kind cs).1, (glossP s kind cs).2.1, (glossP s kind cs).2.2, 0) ∧ cs.length ≤ 40 ∧ cs.all (casB s) = true := by
  unfold casesX at h1
  split at h1
  · rename_i h2
    split at h1
    · rename_i h3
      refine ⟨?_, h2, h3⟩
      simp only [glossR, h, hk, h2, h3, if_true, glossP]
      split <;> rfl
    · cases h1
  · cases h1
theorem glossR_x {s : Sch} {kind : Int} {cs : List Cas} (h : schB s = true) (hk : inB kind 0 (s.kinds - 1) = true) (h1 : casesX s cs ≠ 0) : glossR s kind cs = (0, 0, 0, casesX s cs) := by
  unfold casesX at *
  split at h1
  · rename_i h2
    split at h1
    · exact absurd rfl h1
    · rename_i h3; simp [glossR, h, hk, h2, h3]
  · rename_i h2; simp [glossR, h, hk, h2]
set_option maxRecDepth 100000 in
set_option maxHeartbeats 8000000 in
theorem lwgloss_ok (s : Sch) (kind : Int) (A : Option Addr) (c : Nat) (cs : List Cas) (w : World) (HRR : Hid (s.wreads w w.heap.size)) (HN0 : Hid s.nil0) (HAA : Hid (CasRead w w.heap.size A cs)) (HC0 : Hid (∀ q ∈ cs, q.nil0))
    (hg : largeB s 600 = false) (h45 : cs.length ≤ 45) (h10 : Hid (∀ q ∈ cs, q.when_.length ≤ 8)) :
    Calls Try.prog 5 #[scv s s.rv, .int .i64 kind, .slice A cs.length c] w fun e w' => e = .returned (.bool true) ∧ Below w.heap.size w w' := by
  obtain ⟨hlen, hall, -⟩ := not_large hg
  have d1 : decide (45 < (cs.length : Int)) = false := by simp; omega
  have d1' : decide (45 < cs.length) = false := by simp; omega
  have hrd := reads_of_weak HRR.out hlen hall
  obtain ⟨x1, x2, x3, er, hcr⟩ : ∃ a b c d, glossR s kind cs = (a, b, c, d) := ⟨_, _, _, _, rfl⟩
  have HCR := Lib.hid hcr; have HR := Lib.hid hrd
  clear hcr hrd hall
  go_enter Try.func5, Try.ntmps5
  go_wp2_with (go_at_call 14; refine (large_any s 600 _ ((HRR.out.below (by (repeat (first | exact Below.refl _ _ | assumption | (refine Below.alloc ?_ (by first | omega | (simp; omega) | (simp; done)) _) | (refine Below.setCell ?_ (by first | omega | (simp; omega) | (simp; done)) _) | (refine Below.drew ?_) | (refine belowN ?_ _) | (refine Below.trans ?_ (Below.mono ‹Below _ _ _› (by first | omega | (simp; omega) | (simp; done)))))))).more (by simp))).mono ?_; rintro _ W1 ⟨rfl, hbx⟩; rw [hg]; have hw1 := bl2 (bla (Below.refl _ _)) hbx; have g1 : Blk W1 w.heap.size #[.int .i64 s.places, .int .i64 s.signs, .int .i64 s.kinds, .int .i64 s.answers, s.rv] 24 := (Blk.at_ rfl).below hbx (by first | omega | (simp; omega) | (simp; done)); (have s0 := g1.cell 0; have s1 := g1.cell 1; have s2 := g1.cell 2; have s3 := g1.cell 3; have s4 := g1.cell 4; simp at s0 s1 s2 s3 s4))
  clear d1 d1' s0 s1 s2 s3 s4
  refine gen_w (fun W => Below w.heap.size w W ∧ Blk W w.heap.size #[.int .i64 s.places, .int .i64 s.signs, .int .i64 s.kinds, .int .i64 s.answers, s.rv] 24) ⟨hw1, g1⟩ ?_
  clear g1 hw1 hbx
  clear W1
  rintro w0 ⟨hw0, g0⟩
  go_loopw [7] (fun i wr => ∃ j : Nat, j ≤ cs.length ∧ i = .int .i64 j ∧ Below w0.heap.size w0 wr) (fun i _ => cs.length - (intOf i).toNat)
  case atStart => exact ⟨0, by omega, rfl, Below.refl _ _⟩
  case round =>
    obtain ⟨j, hj, rfl, hb⟩ := hrel
    have hw1 : Below w.heap.size w wr := bl2 hw0 hb
    have g1 := g0.below hb g0.lt
    by_cases hlt : j < cs.length
    · have hrr := HAA.out.below hw1
      obtain ⟨ab, ao, rfl, hblk, hcell⟩ := hrr.1.at_ (k := j) (fun _ => rfl) hlt
      have h10' := h10.out _ (List.getElem_mem hlt)
      obtain ⟨⟨qa, qc, hqv, -⟩, -, -⟩ := hrr.2.2 _ (List.getElem_mem hlt)
      obtain ⟨q, hqe⟩ : ∃ t, cs[j] = t := ⟨_, rfl⟩
      rw [hqe] at hcell h10' hqv
      have cw0 : wr.cell? ⟨ab, ao + j * 2, none⟩ = some (Value.slice qa q.when_.length qc) := by rw [← hqv]; exact hcell 0 _ rfl
      have hj0 : (0 : Int) ≤ (j : Int) := by omega
      have hj1 : (j : Int) < (cs.length : Int) := by omega
      have d2 : decide (8 < (q.when_.length : Int)) = false := by simp; omega
      have d2' : decide (8 < q.when_.length) = false := by simp; omega
      clear hcell hrr hqe hqv
      go_wp2
      go_roundw
      case rel => exact ⟨j + 1, by omega, by go_num, hb⟩
      case measure => simp [intOf]; omega
    · (have s0 := g1.cell 0; have s1 := g1.cell 1; have s2 := g1.cell 2; have s3 := g1.cell 3; have s4 := g1.cell 4; simp at s0 s1 s2 s3 s4)
      go_wp2_with (first | (go_at_call 17; refine (own_any s _ ((HR.out.below hw1).more hw1.size) HN0.out (by omega)).mono ?_; rintro _ W2 ⟨s', rfl, hpl, hr', -, hbx⟩; have HPL := Lib.hid hpl; have HR' := Lib.hid hr'; clear hpl hr'; have hw2 := bl2 hw1 hbx; have g1 := g1.below hbx g1.lt; (have s0 := g1.cell 0; have s1 := g1.cell 1; have s2 := g1.cell 2; have s3 := g1.cell 3; have s4 := g1.cell 4; simp at s0 s1 s2 s3 s4)) |
        (go_at_call 28; refine (cases_any cs A c _ ((HAA.out.below hw2).more hw2.size) HC0.out (by omega)).mono ?_; rintro _ W3 ⟨A', c', cs', rfl, hcap, -, hpc, hA', hb3⟩; have HPC := Lib.hid hpc; have HA' := Lib.hid hA'; clear hpc hA'; have hw3 := bl2 hw2 hb3; have g1 := g1.below hb3 g1.lt; (have s0 := g1.cell 0; have s1 := g1.cell 1; have s2 := g1.cell 2; have s3 := g1.cell 3; have s4 := g1.cell 4; simp at s0 s1 s2 s3 s4)) |
        (go_at_call 27; refine (gglo_any s' kind cs' A' c' _ hcap ((HR'.out.below hb3).more hb3.size) HA'.out).mono ?_; rw [gloss_cong HPL.out HPC.out, HCR.out]; rintro _ W4 ⟨rfl, hb4⟩; refine Hid.out ?_))
      have hw4 := bl2 hw3 hb4
      have g1 := g1.below hb4 g1.lt
      clear HR' HPL HA' HPC s0 s1 s2 s3 s4
      refine Lib.hid ?_
      refine gen_w (fun W => Below w.heap.size w W ∧ Blk W w.heap.size #[.int .i64 s.places, .int .i64 s.signs, .int .i64 s.kinds, .int .i64 s.answers, s.rv] 24) ⟨hw4, g1⟩ ?_
      clear g1 hw4 hb4 hw3 hb3 hbx hw1 hw2 hb
      rintro W ⟨hw, g1⟩
      (have s0 := g1.cell 0; have s1 := g1.cell 1; have s2 := g1.cell 2; have s3 := g1.cell 3; have s4 := g1.cell 4; simp at s0 s1 s2 s3 s4)
      cases hv : schB s with
      | false =>
        have h2 := HCR.out; simp only [glossR, hv] at h2; cases h2
        go_wp2_with (first | (go_at_call 19; refine (rschool_any s _ ((HR.out.below hw).more hw.size)).mono ?_; rw [hv]; rintro _ Wx ⟨rfl, hbx⟩; have hwx := bl2 hw hbx; have g1 := g1.below hbx g1.lt; (have s0 := g1.cell 0; have s1 := g1.cell 1; have s2 := g1.cell 2; have s3 := g1.cell 3; have s4 := g1.cell 4; simp at s0 s1 s2 s3 s4)) | (go_at_call 15; refine (known_any _).mono ?_; rintro _ Wk ⟨rfl, hbk'⟩))
        go_ret
        exact ⟨rfl, bl2 hwx hbk'⟩
      | true =>
        have V := valid_of HR.out.oks hv
        have hsm := small_of_sch hv
        have han := V.answers
        have V3 := v3_of HR.out.oks hv
        by_cases hk0 : kind < 0
        · have e : inB kind 0 (s.kinds - 1) = false := inB_not.2 (.inl hk0)
          have h2 := HCR.out; rw [glossR_k hv e] at h2; cases h2
          have q3 : decide (0 ≤ kind) = false := by simpa using hk0
          clear e HCR V V3 hk0
          go_wp2_with (first | (go_at_call 19; refine (rschool_any s _ ((HR.out.below hw).more hw.size)).mono ?_; rw [hv]; rintro _ Wx ⟨rfl, hbx⟩; have hwx := bl2 hw hbx; have g1 := g1.below hbx g1.lt; (have s0 := g1.cell 0; have s1 := g1.cell 1; have s2 := g1.cell 2; have s3 := g1.cell 3; have s4 := g1.cell 4; simp at s0 s1 s2 s3 s4)) | (go_at_call 15; refine (known_any _).mono ?_; rintro _ Wk ⟨rfl, hbk'⟩))
          go_ret
          exact ⟨rfl, bl2 hwx hbk'⟩
        · have q3 : decide (0 ≤ kind) = true := by simpa using hk0
          by_cases hk : kind < s.kinds
          · have e : inB kind 0 (s.kinds - 1) = true := inB_iff.2 ⟨by omega, by omega⟩
            have q4 : decide (kind < s.kinds) = true := by simpa using hk
            by_cases hX : casesX s cs = 0
            · obtain ⟨hkr, h40, hall⟩ := glossR_ok hv e hX
              have h2 := HCR.out; rw [hkr] at h2; cases h2
              have HX := Lib.hid hX; have HA1 := Lib.hid hall; have HV := Lib.hid V; have H3 := Lib.hid V3
              clear hX hall V V3 hkr HCR e
              obtain ⟨z1, hz1⟩ : ∃ z, z = (glossP s kind cs).1 := ⟨_, rfl⟩
              obtain ⟨z2, hz2⟩ : ∃ z, z = (glossP s kind cs).2.1 := ⟨_, rfl⟩
              obtain ⟨z3, hz3⟩ : ∃ z, z = (glossP s kind cs).2.2 := ⟨_, rfl⟩
              rw [← hz1, ← hz2, ← hz3]
              have HZ1 := Lib.hid hz1; have HZ2 := Lib.hid hz2; have HZ3 := Lib.hid hz3
              clear hz1 hz2 hz3
              go_wp2_with (first | (go_at_call 19; refine (rschool_any s _ ((HR.out.below hw).more hw.size)).mono ?_; rw [hv]; rintro _ Wx ⟨rfl, hbx⟩; have hwx := bl2 hw hbx; have g1 := g1.below hbx g1.lt; (have s0 := g1.cell 0; have s1 := g1.cell 1; have s2 := g1.cell 2; have s3 := g1.cell 3; have s4 := g1.cell 4; simp at s0 s1 s2 s3 s4)) | (go_at_call 29; refine (rcases_any s cs A c _ hsm (by omega) (by omega) ((HAA.out.below hwx).more hwx.size)).mono ?_; rw [HX.out]; rintro _ Wy ⟨rfl, hby⟩; have hwy := bl2 hwx hby; have g1 := g1.below hby g1.lt; (have s0 := g1.cell 0; have s1 := g1.cell 1; have s2 := g1.cell 2; have s3 := g1.cell 3; have s4 := g1.cell 4; simp at s0 s1 s2 s3 s4)) |
                (go_at_call 30; refine (rgloss_any s HV.out H3.out kind cs A c _ ((HR.out.below hwy).more hwy.size) ((HAA.out.below hwy).more hwy.size) (by omega) hk h40 HA1.out).mono ?_; rw [← HZ1.out, ← HZ2.out, ← HZ3.out]; rintro _ Wz ⟨rfl, hbz⟩) | (go_at_call 15; refine (known_any _).mono ?_; rintro _ Wk ⟨rfl, hbk'⟩))
              go_ret
              exact ⟨rfl, bl2 (bl2 hwy hbz) hbk'⟩
            · have h2 := HCR.out; rw [glossR_x hv e hX] at h2; cases h2
              obtain ⟨X, hXe⟩ : ∃ X, casesX s cs = X := ⟨_, rfl⟩
              rw [hXe] at hX ⊢
              have HX := Lib.hid hXe
              have n1 : (X != 0) = true := by simpa using hX
              have n2 : (X == 0) = false := by simpa using hX
              clear hXe hX V V3 HCR e
              go_wp2_with (first | (go_at_call 19; refine (rschool_any s _ ((HR.out.below hw).more hw.size)).mono ?_; rw [hv]; rintro _ Wx ⟨rfl, hbx⟩; have hwx := bl2 hw hbx; have g1 := g1.below hbx g1.lt; (have s0 := g1.cell 0; have s1 := g1.cell 1; have s2 := g1.cell 2; have s3 := g1.cell 3; have s4 := g1.cell 4; simp at s0 s1 s2 s3 s4)) | (go_at_call 29; refine (rcases_any s cs A c _ hsm (by omega) (by omega) ((HAA.out.below hwx).more hwx.size)).mono ?_; rw [HX.out]; rintro _ Wy ⟨rfl, hby⟩; have hwy := bl2 hwx hby; have g1 := g1.below hby g1.lt; (have s0 := g1.cell 0; have s1 := g1.cell 1; have s2 := g1.cell 2; have s3 := g1.cell 3; have s4 := g1.cell 4; simp at s0 s1 s2 s3 s4)) | (go_at_call 15; refine (known_any _).mono ?_; rintro _ Wk ⟨rfl, hbk'⟩))
              go_ret
              exact ⟨rfl, bl2 hwy hbk'⟩
          · have e : inB kind 0 (s.kinds - 1) = false := inB_not.2 (.inr (by omega))
            have h2 := HCR.out; rw [glossR_k hv e] at h2; cases h2
            have q4 : decide (kind < s.kinds) = false := by simpa using hk
            clear e HCR V V3
            go_wp2_with (first | (go_at_call 19; refine (rschool_any s _ ((HR.out.below hw).more hw.size)).mono ?_; rw [hv]; rintro _ Wx ⟨rfl, hbx⟩; have hwx := bl2 hw hbx; have g1 := g1.below hbx g1.lt; (have s0 := g1.cell 0; have s1 := g1.cell 1; have s2 := g1.cell 2; have s3 := g1.cell 3; have s4 := g1.cell 4; simp at s0 s1 s2 s3 s4)) | (go_at_call 15; refine (known_any _).mono ?_; rintro _ Wk ⟨rfl, hbk'⟩))
            go_ret
            exact ⟨rfl, bl2 hwx hbk'⟩
end Go.Proofs.Ytidlmbajpbbilaa
namespace Go.Proofs.Ytidlmbajpbbilaa
open Go.RowKit

/-- cases in memory, however many and long -/
def CasW (w : World) (B : Nat) (A : Option Addr) (cs : List Cas) : Prop := Sl Cas.cells 2 w B A cs ∧ ∀ c ∈ cs, ((∃ a cap, c.v = .slice a c.when_.length cap ∧ Sl Tst.cells 4 w B a c.when_) ∧ ∀ t ∈ c.when_, t.ok)
theorem CasW.reads {w : World} {B : Nat} {A : Option Addr} {cs : List Cas} (h : CasW w B A cs) (h1 : cs.length ≤ 45) (h2 : ∀ q ∈ cs, q.when_.length ≤ 8) : CasRead w B A cs :=
  ⟨h.1, by omega, fun q hq => ⟨(h.2 q hq).1, by have := h2 q hq; omega, (h.2 q hq).2⟩⟩
set_option maxRecDepth 100000 in
set_option maxHeartbeats 8000000 in
theorem lwgloss_any (s : Sch) (kind : Int) (A : Option Addr) (c : Nat) (cs : List Cas) (w : World) (hr : s.wreads w w.heap.size) (h0 : s.nil0) (hA : CasW w w.heap.size A cs) (hn : ∀ q ∈ cs, q.nil0) :
    Calls Try.prog 5 #[scv s s.rv, .int .i64 kind, .slice A cs.length c] w fun e w' => e = .returned (.bool true) ∧ Below w.heap.size w w' := by
  have HRR := Lib.hid hr; have HAA := Lib.hid hA; have HN0 := Lib.hid h0; have HN := Lib.hid hn
  clear hr hA h0 hn
  by_cases hg : largeB s 600 = true
  · go_enter Try.func5, Try.ntmps5
    go_wp2_with (first | (go_at_call 14; refine (large_any s 600 _ ((HRR.out.below (by (repeat (first | exact Below.refl _ _ | assumption | (refine Below.alloc ?_ (by first | omega | (simp; omega) | (simp; done)) _) | (refine Below.setCell ?_ (by first | omega | (simp; omega) | (simp; done)) _) | (refine Below.drew ?_) | (refine belowN ?_ _) | (refine Below.trans ?_ (Below.mono ‹Below _ _ _› (by first | omega | (simp; omega) | (simp; done)))))))).more (by simp))).mono ?_; rintro _ W1 ⟨rfl, hb1⟩; have hw1 : Below w.heap.size w W1 := bl2 (bla (Below.refl _ _)) hb1; rw [hg]) | (go_at_call 15; refine (known_any _).mono ?_; rintro _ Wk ⟨rfl, hbk'⟩))
    go_ret
    exact ⟨rfl, bl2 hw1 hbk'⟩
  · simp only [Bool.not_eq_true] at hg
    by_cases h45 : cs.length ≤ 45
    · by_cases h10 : ∀ q ∈ cs, q.when_.length ≤ 8
      · exact lwgloss_ok s kind A c cs w HRR HN0 (HAA.out.reads h45 h10) HN hg h45 h10
      · have H10 := Lib.hid h10
        have d1 : decide (45 < (cs.length : Int)) = false := by simp; omega
        have d1' : decide (45 < cs.length) = false := by simp; omega
        clear h10
        go_enter Try.func5, Try.ntmps5
        go_wp2_with (go_at_call 14; refine (large_any s 600 _ ((HRR.out.below (by (repeat (first | exact Below.refl _ _ | assumption | (refine Below.alloc ?_ (by first | omega | (simp; omega) | (simp; done)) _) | (refine Below.setCell ?_ (by first | omega | (simp; omega) | (simp; done)) _) | (refine Below.drew ?_) | (refine belowN ?_ _) | (refine Below.trans ?_ (Below.mono ‹Below _ _ _› (by first | omega | (simp; omega) | (simp; done)))))))).more (by simp))).mono ?_; rintro _ W1 ⟨rfl, hbx⟩; rw [hg]; have hw1 := bl2 (bla (Below.refl _ _)) hbx)
        clear d1 d1'
        refine gen_w (fun W => Below w.heap.size w W) hw1 ?_
        clear hw1 hbx
        clear W1
        intro w0 hw0
        go_loopw [7] (fun i wr => ∃ j : Nat, j ≤ cs.length ∧ i = .int .i64 j ∧ Below w0.heap.size w0 wr ∧ Hid (∀ q ∈ cs.take j, q.when_.length ≤ 8)) (fun i _ => cs.length - (intOf i).toNat)
        case atStart => exact ⟨0, by omega, rfl, Below.refl _ _, fun q hq => by cases hq⟩
        case round =>
          obtain ⟨j, hj, rfl, hb, HT⟩ := hrel
          have hw1 : Below w.heap.size w wr := bl2 hw0 hb
          by_cases hlt : j < cs.length
          · have hrr := (HAA.out.1.below hw1)
            obtain ⟨ab, ao, rfl, hblk, hcell⟩ := hrr.at_ (k := j) (fun _ => rfl) hlt
            have HTK := Lib.hid (List.take_succ_eq_append_getElem hlt)
            obtain ⟨q, hqe⟩ : ∃ t, cs[j] = t := ⟨_, rfl⟩
            obtain ⟨⟨qa, qc, hqv, -⟩, -⟩ := HAA.out.2 _ (List.getElem_mem hlt)
            rw [hqe] at hcell HTK hqv
            have cw0 : wr.cell? ⟨ab, ao + j * 2, none⟩ = some (Value.slice qa q.when_.length qc) := by rw [← hqv]; exact hcell 0 _ rfl
            have hj0 : (0 : Int) ≤ (j : Int) := by omega
            have hj1 : (j : Int) < (cs.length : Int) := by omega
            clear hcell hrr hqe hqv
            by_cases hq10 : q.when_.length ≤ 8
            · have d2 : decide (8 < (q.when_.length : Int)) = false := by simp; omega
              have d2' : decide (8 < q.when_.length) = false := by simp; omega
              go_wp2
              go_roundw
              case rel => exact ⟨j + 1, by omega, by go_num, hb, fun p hp => by
                rw [HTK.out] at hp
                rcases List.mem_append.1 hp with h | h
                · exact HT.out p h
                · obtain rfl : p = q := by simpa using h
                  exact hq10⟩
              case measure => simp [intOf]; omega
            · have d2 : decide (8 < (q.when_.length : Int)) = true := by simp; omega
              have d2' : decide (8 < q.when_.length) = true := by simp; omega
              go_wp2_with (go_at_call 15; refine (known_any _).mono ?_; rintro _ Wk ⟨rfl, hbk'⟩)
              go_ret
              exact ⟨rfl, bl2 hw1 hbk'⟩
          · exact absurd (by have := HT.out; rwa [List.take_of_length_le (by omega)] at this) H10.out
    · have d1 : decide (45 < (cs.length : Int)) = true := by simp; omega
      have d1' : decide (45 < cs.length) = true := by simp; omega
      go_enter Try.func5, Try.ntmps5
      go_wp2_with (first | (go_at_call 14; refine (large_any s 600 _ ((HRR.out.below (by (repeat (first | exact Below.refl _ _ | assumption | (refine Below.alloc ?_ (by first | omega | (simp; omega) | (simp; done)) _) | (refine Below.setCell ?_ (by first | omega | (simp; omega) | (simp; done)) _) | (refine Below.drew ?_) | (refine belowN ?_ _) | (refine Below.trans ?_ (Below.mono ‹Below _ _ _› (by first | omega | (simp; omega) | (simp; done)))))))).more (by simp))).mono ?_; rintro _ W1 ⟨rfl, hb1⟩; have hw1 : Below w.heap.size w W1 := bl2 (bla (Below.refl _ _)) hb1; rw [hg]) | (go_at_call 15; refine (known_any _).mono ?_; rintro _ Wk ⟨rfl, hbk'⟩))
      go_ret
      exact ⟨rfl, bl2 hw1 hbk'⟩
end Go.Proofs.Ytidlmbajpbbilaa
namespace Go.Proofs.Ytidlmbajpbbilaa
open Go.RowKit

/-- the school of the first j cases -/
def casT (s : Sch) (cs : List Cas) (j : Nat) : Sch := { casS s cs with rules := (casS s cs).rules.take j }
theorem casT_all (s : Sch) (cs : List Cas) : casT s cs cs.length = casS s cs := by
  have : (casS s cs).rules.take cs.length = (casS s cs).rules := List.take_of_length_le (by rw [cas_len]; exact Nat.le_refl _)
  simp only [casT, this]
theorem casT_len (s : Sch) (cs : List Cas) {j : Nat} (hj : j ≤ cs.length) : (casT s cs j).rules.length = j := by
  show ((casS s cs).rules.take j).length = j
  rw [List.length_take, cas_len]; omega
theorem casT_succ (s : Sch) (cs : List Cas) {j : Nat} (hj : j < cs.length) : (casT s cs (j + 1)).rules = (casT s cs j).rules ++ [casRul j cs[j]] := by
  have hj' : j < (casS s cs).rules.length := by rw [cas_len]; exact hj
  show (casS s cs).rules.take (j + 1) = _
  rw [List.take_succ_eq_append_getElem hj']
  have h1 := cas_get s cs j
  rw [List.getElem?_eq_getElem hj', List.getElem?_eq_getElem hj] at h1
  simp only [Option.map_some, Option.some.injEq] at h1
  rw [h1]; rfl
/-- the school of the first j cases in memory -/
structure Cst (s : Sch) (cs : List Cas) (b j : Nat) (W : World) (q : Sch) : Prop where
  pl : q.pl = (casT s cs j).pl
  m : MSch b W q
theorem Cst.below {s q : Sch} {cs : List Cas} {b j : Nat} {W W' : World} (h : Cst s cs b j W q) (hb : Below W.heap.size W W') : Cst s cs b j W' q := ⟨h.pl, h.m.below hb⟩
theorem Cst.len {s q : Sch} {cs : List Cas} {b j : Nat} {W : World} (h : Cst s cs b j W q) (hj : j ≤ cs.length) : q.rules.length = j := by
  have h1 := congrArg (fun x => x.rules.length) h.pl
  simpa [len_pl, casT_len s cs hj] using h1
theorem Cst.flds {s q : Sch} {cs : List Cas} {b j : Nat} {W : World} (h : Cst s cs b j W q) : q.places = s.places ∧ q.signs = s.signs ∧ q.kinds = 1 ∧ q.answers = s.answers := by
  have h3 := congrArg Sch.places h.pl; have h4 := congrArg Sch.signs h.pl; have h5 := congrArg Sch.kinds h.pl; have h6 := congrArg Sch.answers h.pl
  exact ⟨h3, h4, h5, h6⟩
theorem Cst.scv {s q : Sch} {cs : List Cas} {b j : Nat} {W : World} (h : Cst s cs b j W q) : Go.Proofs.Ytidlmbajpbbilaa.scv q q.rv = .agg #[.int .i64 s.places, .int .i64 s.signs, .int .i64 1, .int .i64 s.answers, .slice q.ra q.rules.length q.rc] := by
  obtain ⟨h1, h2, h3, h4⟩ := h.flds
  show Value.agg #[.int .i64 q.places, .int .i64 q.signs, .int .i64 q.kinds, .int .i64 q.answers, q.rv] = _
  rw [h1, h2, h3, h4]
theorem cst_zero (s : Sch) (cs : List Cas) (b : Nat) (W : World) : Cst s cs b 0 W ⟨s.places, s.signs, 1, s.answers, none, 0, []⟩ :=
  ⟨rfl, ⟨⟨rfl, .inl ⟨rfl, rfl⟩⟩, (fun r hr => by cases hr), by simp⟩⟩
theorem Cst.app {s q : Sch} {cs : List Cas} {b j gg cap c1 : Nat} {A1 : Option Addr} {W W5 : World} (h : Cst s cs b j W q) (hj : j < cs.length) (hl : cs.length ≤ 1000)
    (hb5 : W5.ownsRow b 82 5 (.slice (some ⟨gg, 0, none⟩) (q.rules.length + 1) cap) (q.rules.length + 1) (flat Rul.cells q.rules ++ [.slice A1 cs[j].when_.length c1, .int .i64 1, .int .i64 j, .slice none 0 0, .int .i64 cs[j].says]))
    (hg : W.grownBy W5 (Value.slice q.ra q.rules.length q.rc).ownBlock) (hr : W.ownsRow 0 103 4 (.slice A1 cs[j].when_.length c1) cs[j].when_.length (flat Tst.cells cs[j].when_)) (h1 : cs[j].when_.length ≤ 1000000) (ho : ∀ t ∈ cs[j].when_, t.ok) :
    Cst s cs b (j + 1) W5 { q with ra := some ⟨gg, 0, none⟩, rc := cap, rules := q.rules ++ [⟨A1, c1, cs[j].when_, 1, j, none, 0, [], cs[j].says⟩] } := by
  have hlen := h.len (show j ≤ cs.length by omega)
  refine ⟨?_, h.m.app (r := ⟨A1, c1, cs[j].when_, 1, j, none, 0, [], cs[j].says⟩) hb5 hg ⟨hr, ⟨rfl, .inl ⟨rfl, rfl⟩⟩, h1, by simp, ho⟩ (by omega)⟩
  obtain ⟨e1, e2, e3, e4⟩ := h.flds
  have e5 : q.rules.map Rul.pl = (casT s cs j).rules.map Rul.pl := congrArg Sch.rules h.pl
  have e6 := congrArg (List.map Rul.pl) (casT_succ s cs hj)
  refine sch_ext' e1 e2 e3 e4 rfl rfl fun i => ?_
  show ((q.rules ++ [_]).map Rul.pl)[i]? = ((casT s cs (j + 1)).rules.map Rul.pl)[i]?
  rw [e6, List.map_append, List.map_append, e5]
  rfl
/-- the first i rules are for one kind alone -/
def onTo (kind : Int) (i : Nat) (l : List Rul) : List Rul := (l.take i).map (Rul.only kind) ++ l.drop i
theorem onTo_get (kind : Int) (i : Nat) (l : List Rul) (j : Nat) : (onTo kind i l)[j]? = (l[j]?).map fun r => if j < i then r.only kind else r := by
  unfold onTo
  by_cases h : j < i
  · by_cases hj : j < l.length
    · rw [List.getElem?_append_left (by simp; omega), List.getElem?_map, List.getElem?_take]
      simp [h]
    · have h1 : l[j]? = none := List.getElem?_eq_none (by omega)
      rw [h1]
      exact List.getElem?_eq_none (by simp; omega)
  · by_cases hj : i ≤ l.length
    · rw [List.getElem?_append_right (by simp; omega)]
      have e : ((l.take i).map (Rul.only kind)).length = i := by simp; omega
      rw [e, List.getElem?_drop, show i + (j - i) = j by omega]
      simp [h]
    · have h1 : l[j]? = none := List.getElem?_eq_none (by omega)
      rw [h1]
      exact List.getElem?_eq_none (by simp; omega)
def plK (s : Sch) (kind : Int) (i : Nat) : Sch := ({ s with kinds := 1, rules := onTo kind i s.rules } : Sch).pl
theorem plK_zero (s : Sch) (kind : Int) : plK s kind 0 = ({ s with kinds := 1 } : Sch).pl := by simp only [plK, onTo, List.take_zero, List.map_nil, List.drop_zero, List.nil_append]
theorem plK_all (s : Sch) (kind : Int) : plK s kind s.rules.length = (s.only kind).pl := by simp [plK, onTo, Sch.only]
theorem plK_get (s : Sch) (kind : Int) (i j : Nat) : (plK s kind i).rules[j]? = (s.rules[j]?).map fun r => (if j < i then r.only kind else r).pl := by
  simp only [plK]
  rw [get_pl]
  show ((onTo kind i s.rules)[j]?).map Rul.pl = _
  rw [onTo_get]
  cases s.rules[j]? <;> simp
theorem plK_len {s q : Sch} {kind : Int} {i : Nat} (h : q.pl = plK s kind i) : q.rules.length = s.rules.length := by
  have h1 := congrArg (fun x => x.rules.length) h
  have h2 : ∀ l : List Rul, (onTo kind i l).length = l.length := fun l => by simp [onTo]; omega
  simpa [plK, len_pl, h2] using h1
theorem plK_step {s q : Sch} {kind : Int} {i : Nat} (h : q.pl = plK s kind i) (hi : i < s.rules.length) (hq : i < q.rules.length) : q.rules[i].kinds = s.rules[i].kinds ∧ (q.mod i (Rul.kn (s.rules[i].kinds / 2 ^ kind.toNat % 2))).pl = plK s kind (i + 1) := by
  have hg : ∀ j : Nat, (q.rules[j]?).map Rul.pl = (s.rules[j]?).map fun r => (if j < i then r.only kind else r).pl := fun j => by
    rw [← get_pl, h, plK_get]
  have h1 := hg i
  rw [List.getElem?_eq_getElem hi, List.getElem?_eq_getElem hq] at h1
  simp only [Option.map_some, Option.some.injEq, Nat.lt_irrefl, if_false] at h1
  refine ⟨by have := congrArg Rul.kinds h1; exact this, ?_⟩
  have hp : q.places = s.places ∧ q.signs = s.signs ∧ q.kinds = 1 ∧ q.answers = s.answers := by
    have h3 := congrArg Sch.places h; have h4 := congrArg Sch.signs h; have h5 := congrArg Sch.kinds h; have h6 := congrArg Sch.answers h
    exact ⟨h3, h4, h5, h6⟩
  refine sch_ext' hp.1 hp.2.1 hp.2.2.1 hp.2.2.2 rfl rfl fun j => ?_
  rw [plK_get, get_pl, mod_get]
  have h2 := hg j
  by_cases hj : i = j
  · subst hj
    rw [List.getElem?_eq_getElem hi, List.getElem?_eq_getElem hq]
    simp only [Option.map_some, if_true, Nat.lt_succ_self]
    congr 1
    have e : q.rules[i].pl = s.rules[i].pl := h1
    have e1 : (Rul.kn (s.rules[i].kinds / 2 ^ kind.toNat % 2) q.rules[i]).pl = Rul.kn (s.rules[i].kinds / 2 ^ kind.toNat % 2) q.rules[i].pl := rfl
    rw [e1, e]; rfl
  · cases hqj : q.rules[j]? with
    | none =>
      rw [hqj] at h2
      cases hsj : s.rules[j]? with
      | none => rfl
      | some r => rw [hsj] at h2; cases h2
    | some r =>
      rw [hqj] at h2
      cases hsj : s.rules[j]? with
      | none => rw [hsj] at h2; cases h2
      | some r' =>
        rw [hsj] at h2
        simp only [Option.map_some, Option.some.injEq, if_neg hj] at h2 ⊢
        rw [h2]
        by_cases hlt : j < i
        · have : j < i + 1 := by omega
          simp [hlt, this]
        · have : ¬ j < i + 1 := by omega
          simp [hlt, this]
/-- a school made by own for one kind, its first i rules -/
structure Ont (s : Sch) (kind : Int) (A : Option Addr) (c b i : Nat) (W : World) (q : Sch) : Prop where
  a : q.ra = A
  cc : q.rc = c
  pl : q.pl = plK s kind i
  m : MSch b W q
theorem Ont.below {s q : Sch} {kind : Int} {A : Option Addr} {c b i : Nat} {W W' : World} (h : Ont s kind A c b i W q) (hb : Below W.heap.size W W') : Ont s kind A c b i W' q := ⟨h.a, h.cc, h.pl, h.m.below hb⟩
theorem ont_of {s q : Sch} {kind : Int} {b : Nat} {W : World} (h : q.pl = s.pl) (hm : MSch b W q) : Ont s kind q.ra q.rc b 0 W { q with kinds := 1 } := by
  refine ⟨rfl, rfl, ?_, ⟨hm.row, hm.rows, hm.len⟩⟩
  rw [plK_zero]
  have h3 := congrArg Sch.places h; have h4 := congrArg Sch.signs h; have h6 := congrArg Sch.answers h; have h7 := congrArg Sch.rules h
  exact sch_ext' h3 h4 rfl h6 rfl rfl fun j => by rw [show ({ q with kinds := 1 } : Sch).pl.rules = q.pl.rules from rfl, h7]; rfl
theorem Ont.scv {s q : Sch} {kind : Int} {A : Option Addr} {c b i : Nat} {W : World} (h : Ont s kind A c b i W q) : Go.Proofs.Ytidlmbajpbbilaa.scv q q.rv = .agg #[.int .i64 s.places, .int .i64 s.signs, .int .i64 1, .int .i64 s.answers, .slice A s.rules.length c] := by
  have h3 := congrArg Sch.places h.pl; have h4 := congrArg Sch.signs h.pl; have h5 := congrArg Sch.kinds h.pl; have h6 := congrArg Sch.answers h.pl
  exact pl_scv (s := { s with kinds := 1 }) h3 h4 h5 h6 (plK_len h.pl) h.a h.cc
theorem bits_and1 (x : Int) (h0 : 0 ≤ x) (h1 : x < 16) : bits BinOp.and IntKind.i64 x 1 = x % 2 := by
  have key : ∀ n < 16, bits BinOp.and IntKind.i64 ((n : Nat) : Int) 1 = ((n : Nat) : Int) % 2 := by decide
  obtain ⟨n, rfl⟩ := Int.eq_ofNat_of_zero_le h0
  exact key n (by omega)
theorem Ont.put {s q : Sch} {kind : Int} {A : Option Addr} {c b i : Nat} {W : World} (h : Ont s kind A c b i W q) (hi : i < s.rules.length) :
    ∃ g q', A = some ⟨g, 0, none⟩ ∧ b ≤ g ∧ (∃ cs, Blk W g cs 82) ∧ W.frozen? ⟨g, i * 5 + 1, none⟩ = false ∧ W.cell? ⟨g, i * 5 + 1, none⟩ = some (.int .i64 s.rules[i].kinds) ∧ Ont s kind A c b (i + 1) (W.setCell ⟨g, i * 5 + 1, none⟩ (.int .i64 (s.rules[i].kinds / 2 ^ kind.toNat % 2))) q' := by
  have hq : i < q.rules.length := by rw [plK_len h.pl]; exact hi
  obtain ⟨hk, hp⟩ := plK_step h.pl hi hq
  obtain ⟨g, h1, h2, h3, h4, h5, h6⟩ := h.m.putf hq (Rul.kn (s.rules[i].kinds / 2 ^ kind.toNat % 2)) 1 (.int .i64 (s.rules[i].kinds / 2 ^ kind.toNat % 2)) (by omega) (kn_cells _ _) (fun W hW => kn_rows _ hW)
  obtain ⟨ab, ao, hra, _, hcell⟩ := h.m.reads.1.at_ (k := i) (fun _ => rfl) hq
  have hc : W.cell? ⟨ab, ao + i * 5 + 1, none⟩ = some (.int .i64 q.rules[i].kinds) := hcell 1 _ rfl
  have e : some (⟨g, 0, none⟩ : Addr) = some ⟨ab, ao, none⟩ := by rw [← h1, hra]
  have e1 : g = ab ∧ 0 = ao := by injection e with e; injection e with e1 e2; exact ⟨e1, e2⟩
  obtain ⟨rfl, rfl⟩ := e1
  rw [Nat.zero_add, hk] at hc
  exact ⟨g, q.mod i (Rul.kn (s.rules[i].kinds / 2 ^ kind.toNat % 2)), by rw [← h.a, h1], h2, h3, h4, hc, ⟨h.a, h.cc, hp, h6⟩⟩
/-- the answers of cases -/
theorem cas_says {s : Sch} {cs : List Cas} (V : Valid s) (h : cs.all (casB s) = true) : ∀ c ∈ cs, 0 ≤ c.says ∧ c.says < 20 := fun c hc => by
  have h1 := List.all_eq_true.1 h c hc
  simp only [casB, Bool.and_eq_true] at h1
  have h2 := inB_iff.1 h1.2
  have := V.answers
  omega
/-- with a commentary with which nothing is wrong the two schools are read alike -/
theorem differ_cas {s : Sch} {cs : List Cas} {kind : Int} (hv : schB s = true) (V : Valid s) (hc : cs.all (casB s) = true) (hl : cs.length ≤ 30) (hg : glossN s kind cs < 0) : differR (s.only kind) (casS s cs) 0 = (-1, 0) := by
  have h1 := only_schB (kind := kind) hv
  have h2 := cas_schB hv hc hl
  have e1 : (s.only kind).places = (casS s cs).places := rfl
  have e2 : (s.only kind).signs = (casS s cs).signs := rfl
  have e3 : (s.only kind).kinds = (casS s cs).kinds := rfl
  have hk : inB 0 0 ((s.only kind).kinds - 1) = true := inB_iff.2 ⟨by omega, by show (0 : Int) ≤ 1 - 1; omega⟩
  simp only [differR, h1, h2, e1, e2, e3, Bool.and_self, if_true, beq_self_eq_true]
  rw [← e3, hk]
  simp only [if_true]
  rw [firstN_none fun j hj => by
    have := comments_same (s := s) (kind := kind) (cas_says V hc) hg (show j < chartsC s from hj)
    have e4 : chartL (s.only kind) j = chartL s j := rfl
    have e5 : chartL (casS s cs) j = chartL s j := rfl
    simp only [e4, e5, this]; simp]
theorem dfc_any {s q c' : Sch} {cs : List Cas} {kind : Int} (hv : schB s = true) (V : Valid s) (hc : cs.all (casB s) = true) (hl : cs.length ≤ 30) (hg : glossN s kind cs < 0) (hq : q.pl = (s.only kind).pl) (hp : c'.pl = (casS s cs).pl) {W0 W1 W : World}
    (hr : q.reads W0 W0.heap.size) (h0 : Below W0.heap.size W0 W) (hr1 : c'.reads W1 W1.heap.size) (h1 : Below W1.heap.size W1 W) :
    Calls Try.prog 34 #[scv q q.rv, scv c' c'.rv, .int .i64 0] W fun e w' => e = .returned (.tuple #[.int .i64 (-1), .int .i64 0]) ∧ Below W.heap.size W w' := by
  have h := differ_any q c' 0 W ((hr.below h0).more h0.size) ((hr1.below h1).more h1.size)
  rw [differ_cong' hq hp, differ_cas hv V hc hl hg] at h
  exact h
/-- what is wrong with a commentary -/
inductive Wrong (s : Sch) (kind : Int) (cs : List Cas) (k : Nat) : Int → Int → Prop
  | none (h : abL (chartL s k) cs cs.length = []) : Wrong s kind cs k (-1) 1
  | two (a b : Nat) (r : List Nat) (h : abL (chartL s k) cs cs.length = a :: b :: r) : Wrong s kind cs k (b : Int) 2
  | other (a : Nat) (h : abL (chartL s k) cs cs.length = [a]) (ha : a < cs.length) (hs : ansL s kind k ≠ [cs[a].says.toNat]) : Wrong s kind cs k (a : Int) 3
theorem wrong_of {s : Sch} {kind : Int} {cs : List Cas} {k : Nat} (hc : ∀ c ∈ cs, 0 ≤ c.says ∧ c.says < 20) (h : (glAt s kind cs k).2 ≠ 0) : Wrong s kind cs k (glAt s kind cs k).1 (glAt s kind cs k).2 := by
  match hm : abL (chartL s k) cs cs.length with
  | [] => rw [glAt_ab0 hm]; exact .none hm
  | a :: b :: r => rw [glAt_ab2 hm]; exact .two a b r hm
  | [a] =>
    have ha := (abL_head hm).1
    obtain ⟨h1, h2⟩ := hc _ (List.getElem_mem ha)
    rw [glAt_ab1 hm ha h1 h2] at h ⊢
    by_cases hs : ansL s kind k = [cs[a].says.toNat]
    · rw [if_pos hs] at h; exact absurd rfl h
    · rw [if_neg hs]; exact .other a hm ha hs
/-- what Gloss answers: nothing is wrong, or what is wrong at some chart -/
theorem glossP_cases {s : Sch} {kind : Int} {cs : List Cas} (V : Valid s) (hc : cs.all (casB s) = true) :
    (glossN s kind cs < 0 ∧ glossP s kind cs = (-1, -1, 0)) ∨ ∃ (k : Nat) (x y : Int), k < chartsC s ∧ glossP s kind cs = ((k : Int), x, y) ∧ y ≠ 0 ∧ Wrong s kind cs k x y := by
  by_cases hn : glossN s kind cs < 0
  · exact .inl ⟨hn, by unfold glossP; rw [if_pos hn]⟩
  · right
    obtain ⟨k, hk, he⟩ := firstIdx_lt (p := fun k => (glAt s kind cs k).2 != 0) (l := List.range (chartsC s)) (by show 0 ≤ glossN s kind cs; omega)
    have he' : glossN s kind cs = (k : Int) := he
    have hk' : k < chartsC s := by simpa using hk
    have hp := firstIdx_hit he hk
    simp only [List.getElem_range, bne_iff_ne, ne_eq] at hp
    refine ⟨k, _, _, hk', ?_, hp, wrong_of (cas_says V hc) hp⟩
    unfold glossP
    rw [if_neg hn, he']
    simp
end Go.Proofs.Ytidlmbajpbbilaa
namespace Go.Proofs.Ytidlmbajpbbilaa
open Go.RowKit

theorem Cst.appr {s q : Sch} {cs : List Cas} {b j gg cap c1 : Nat} {A1 : Option Addr} {W W5 : World} {qv : Value} {ts : List Tst} {says : Int} (h : Cst s cs b j W q) (hj : j < cs.length) (hre : cs[j] = ⟨qv, ts, says⟩) (hl : cs.length ≤ 1000)
    (hb5 : W5.ownsRow b 82 5 (.slice (some ⟨gg, 0, none⟩) (q.rules.length + 1) cap) (q.rules.length + 1) (flat Rul.cells q.rules ++ [.slice A1 ts.length c1, .int .i64 1, .int .i64 j, .slice none 0 0, .int .i64 says]))
    (hg : W.grownBy W5 (Value.slice q.ra q.rules.length q.rc).ownBlock) (hr : W.ownsRow 0 103 4 (.slice A1 ts.length c1) ts.length (flat Tst.cells ts)) (h1 : ts.length ≤ 1000000) (ho : ∀ t ∈ ts, t.ok) :
    Cst s cs b (j + 1) W5 { q with ra := some ⟨gg, 0, none⟩, rc := cap, rules := q.rules ++ [⟨A1, c1, ts, 1, j, none, 0, [], says⟩] } := by
  have h2 := @Cst.app s q cs b j gg cap c1 A1 W W5 h hj hl
  rw [hre] at h2
  exact h2 hb5 hg hr h1 ho
theorem glossR_er {s : Sch} {kind x1 x2 x3 er : Int} {cs : List Cas} (h : glossR s kind cs = (x1, x2, x3, er)) (he : er ≠ 0) : x1 = 0 ∧ x2 = 0 ∧ x3 = 0 := by
  unfold glossR at h
  split at h
  · split at h
    · split at h
      · split at h
        · split at h
          · simp only [Prod.mk.injEq] at h; omega
          · simp only [Prod.mk.injEq] at h; omega
        · simp only [Prod.mk.injEq] at h; omega
      · simp only [Prod.mk.injEq] at h; omega
    · simp only [Prod.mk.injEq] at h; omega
  · simp only [Prod.mk.injEq] at h; omega
theorem glossR_0 {s : Sch} {kind x1 x2 x3 : Int} {cs : List Cas} (h : glossR s kind cs = (x1, x2, x3, 0)) : schB s = true ∧ inB kind 0 (s.kinds - 1) = true ∧ cs.all (casB s) = true ∧ glossP s kind cs = (x1, x2, x3) := by
  unfold glossR at h
  split at h
  · rename_i h1
    split at h
    · rename_i h2
      split at h
      · split at h
        · rename_i h4
          refine ⟨h1, h2, h4, ?_⟩
          unfold glossP
          split at h
          · rename_i h5; rw [if_pos h5]; simp only [Prod.mk.injEq] at h ⊢; omega
          · rename_i h5; rw [if_neg h5]; simp only [Prod.mk.injEq] at h ⊢; omega
        · simp only [Prod.mk.injEq] at h; omega
      · simp only [Prod.mk.injEq] at h; omega
    · simp only [Prod.mk.injEq] at h; omega
  · simp only [Prod.mk.injEq] at h; omega
end Go.Proofs.Ytidlmbajpbbilaa
namespace Go.Proofs.Ytidlmbajpbbilaa
open Go.RowKit

theorem dfx_any {s q c' : Sch} {cs : List Cas} {kind : Int} {X : Value} (hX : scv q q.rv = X) (hv : schB s = true) (V : Valid s) (hc : cs.all (casB s) = true) (hl : cs.length ≤ 30) (hg : glossN s kind cs < 0) (hq : q.pl = (s.only kind).pl) (hp : c'.pl = (casS s cs).pl) {W0 W1 W : World}
    (hr : q.reads W0 W0.heap.size) (h0 : Below W0.heap.size W0 W) (hr1 : c'.reads W1 W1.heap.size) (h1 : Below W1.heap.size W1 W) :
    Calls Try.prog 34 #[X, scv c' c'.rv, .int .i64 0] W fun e w' => e = .returned (.tuple #[.int .i64 (-1), .int .i64 0]) ∧ Below W.heap.size W w' := by
  subst hX; exact dfc_any hv V hc hl hg hq hp hr h0 hr1 h1
/-- the school of all cases, made by the loop -/
structure Csa (s : Sch) (cs : List Cas) (b : Nat) (W : World) (q : Sch) : Prop where
  pl : q.pl = (casS s cs).pl
  m : MSch b W q
  scv : Go.Proofs.Ytidlmbajpbbilaa.scv q q.rv = .agg #[.int .i64 s.places, .int .i64 s.signs, .int .i64 1, .int .i64 s.answers, .slice q.ra q.rules.length q.rc]
theorem csa_of {s q : Sch} {cs : List Cas} {b : Nat} {W : World} (h : Cst s cs b cs.length W q) : Csa s cs b W q := ⟨by rw [h.pl, casT_all], h.m, h.scv⟩
theorem Csa.below {s q : Sch} {cs : List Cas} {b : Nat} {W W' : World} (h : Csa s cs b W q) (hb : Below W.heap.size W W') : Csa s cs b W' q := ⟨h.pl, h.m.below hb, h.scv⟩
theorem Ont.all {s q : Sch} {kind : Int} {A : Option Addr} {c b : Nat} {W : World} (h : Ont s kind A c b s.rules.length W q) : q.pl = (s.only kind).pl := by rw [h.pl, plK_all]
end Go.Proofs.Ytidlmbajpbbilaa
namespace Go.Proofs.Ytidlmbajpbbilaa
open Go.RowKit

/-- the school of one case in memory -/
def oneS (s : Sch) (b : Nat) (A : Option Addr) (c : Nat) (ts : List Tst) (says : Int) : Sch := ⟨s.places, s.signs, 1, s.answers, some ⟨b, 0, none⟩, 1, [⟨A, c, ts, 1, 0, none, 0, [], says⟩]⟩
theorem oneS_pl (s : Sch) (b : Nat) (A : Option Addr) (c : Nat) (v : Value) (ts : List Tst) (says : Int) : (oneS s b A c ts says).pl = (casS s [⟨v, ts, says⟩]).pl := rfl
theorem oneS_reads {s : Sch} {b : Nat} {A : Option Addr} {c : Nat} {ts : List Tst} {says : Int} {W : World} (hb : Blk W b #[.slice A ts.length c, .int .i64 1, .int .i64 0, .slice none 0 0, .int .i64 says] 82) (hA : Sl Tst.cells 4 W W.heap.size A ts) (hl : ts.length ≤ 1000000) (ho : ∀ t ∈ ts, t.ok) :
    (oneS s b A c ts says).reads W W.heap.size := by
  refine ⟨⟨rfl, fun _ => ⟨b, 0, rfl, hb.lt, fun j u hu => ?_⟩⟩, by simp [oneS], fun q hq' => ?_⟩
  · rw [hb.cell, Nat.zero_add]; simpa [flat, oneS, Rul.cells] using hu
  · obtain rfl : q = _ := by simpa [oneS] using hq'
    exact ⟨hA, Reads.none_, hl, by simp, ho⟩
theorem cas_kd {s : Sch} {v : Value} {ts : List Tst} {says : Int} {ch : List Int} (hv : schB s = true) (hc : casB s ⟨v, ts, says⟩ = true) (hch : chartB s ch = true) (h0 : 0 ≤ says) (h1 : says < 20) :
    ∃ RQ RM, readR (casS s [⟨v, ts, says⟩]) ch 0 = (if holdsB ch ts then 1 else 2, RQ, RM, 0) ∧ RQ.length ≤ 1000000 ∧ RM.length ≤ 1000000 := by
  have h2 := cas_schB (cs := [⟨v, ts, says⟩]) hv (by simp [hc]) (by simp)
  have h3 : chartB (casS s [⟨v, ts, says⟩]) ch = true := hch
  have h4 : inB 0 0 ((casS s [⟨v, ts, says⟩]).kinds - 1) = true := inB_iff.2 ⟨by omega, by show (0 : Int) ≤ 1 - 1; omega⟩
  exact ⟨bitsOf (ansN (casS s [⟨v, ts, says⟩]) 0 0 ch), bitsOf (mainN (casS s [⟨v, ts, says⟩]) 0 0 ch), by simp only [readR, h2, h3, h4, if_true, one_kind (s := s) (c := ⟨v, ts, says⟩) (ch := ch) h0 h1], bitsOf_len _, bitsOf_len _⟩
theorem one_any {s : Sch} {b : Nat} {A A' : Option Addr} {c : Nat} (c' : Nat) {v : Value} {ts : List Tst} {says kd : Int} {ch RQ RM : List Int} {n : Nat} {W : World} (hr : readR (casS s [⟨v, ts, says⟩]) ch 0 = (kd, RQ, RM, 0))
    (hb : Blk W b #[.slice A ts.length c, .int .i64 1, .int .i64 0, .slice none 0 0, .int .i64 says] 82) (hT : Sl Tst.cells 4 W W.heap.size A ts) (hl : ts.length ≤ 1000000) (ho : ∀ t ∈ ts, t.ok) (hA : Sl intCell 1 W W.heap.size A' ch) (hn : ch.length = n) (hl2 : ch.length ≤ 1000000) :
    Calls Try.prog 33 #[.agg #[.int .i64 s.places, .int .i64 s.signs, .int .i64 1, .int .i64 s.answers, .slice (some ⟨b, 0, none⟩) 1 1], .slice A' n c', .int .i64 0] W (RetRead (kd, RQ, RM, 0) W) := by
  have h := read_any (oneS s b A c ts says) ch 0 A' c' W (oneS_reads hb hT hl ho) hl2 hA
  rw [← readR_pl, oneS_pl s b A c v, readR_pl, hr, hn] at h; exact h
theorem sl_some {α : Type} {f : α → List Value} {size : Nat} {w : World} {B : Nat} {A : Option Addr} {l : List α} (h : Sl f size w B A l) (hl : 0 < l.length) : A ≠ none := by
  obtain ⟨b, o, e, _⟩ := h.2 hl
  rw [e]; simp
theorem ints_sl {A' : Option Addr} {c' B n : Nat} {ch : List Int} {W : World} (hA : Sl intCell 1 W B A' ch) (hB : B ≤ W.heap.size) (hn : ch.length = n) (h1 : 0 < n ∧ n ≤ 1000000) :
    Calls Try.prog 38 #[.slice A' n c'] W fun e W' => ∃ A2 c2, e = .returned (.slice A2 n c2) ∧ Sl intCell 1 W' W'.heap.size A2 ch ∧ Below W.heap.size W W' := by
  have h := lints_any A' c' ch W (by omega) (fun e => absurd e (sl_some hA (by omega))) (oneCell_ints _) (hA.more hB)
  rw [hn] at h
  refine h.mono ?_
  rintro _ W' ⟨v, rfl, ho, hb⟩
  obtain ⟨A2, c2, rfl, hs⟩ := Sl.of_own ho
  exact ⟨A2, c2, by rw [hn], hs, hb⟩
/-- where the answers are others than the case's: what Read returns has not one answer, or another one -/
theorem other_ans {s : Sch} {kind says : Int} {k : Nat} (h0 : 0 ≤ says) (h : ansL s kind k ≠ [says.toNat]) {x : Int} (hx : bitsOf (ansN s 0 kind (chartL s k)) = [x]) : x ≠ says := fun e => by
  subst e
  rw [bitsOf_ans] at hx
  have h2 : (ansL s kind k).map (fun (i : Nat) => (i : Int)) = [x] := hx
  match hm : ansL s kind k with
  | [] => rw [hm] at h2; cases h2
  | [a] =>
    rw [hm] at h2
    have h3 : (a : Int) = x := by simpa using h2
    exact h (by rw [hm, ← h3]; rfl)
  | a :: b :: r => rw [hm] at h2; simp at h2
end Go.Proofs.Ytidlmbajpbbilaa

/- The law SchoolGlosses: the walk. -/
import Derived.Test.YtidlmbajpbbilaaRgG
import Derived.Test.YtidlmbajpbbilaaHlI
import Derived.Test.YtidlmbajpbbilaaLwA
import Derived.Test.YtidlmbajpbbilaaScSC
namespace Go.Proofs.Ytidlmbajpbbilaa
open Go.RowKit

theorem glossR_k {s : Sch} {kind : Int} {cs : List Cas} (h : schB s = true) (h1 : inB kind 0 (s.kinds - 1) = false) : glossR s kind cs = (0, 0, 0, 7) := by simp [glossR, h, h1]
theorem glossR_ok {s : Sch} {kind : Int} {cs : List Cas} (h : schB s = true) (hk : inB kind 0 (s.kinds - 1) = true) (h1 : casesX s cs = 0) : glossR s kind cs = ((glossP s kind cs).1, (glossP s kind cs).2.1, (glossP s kind cs).2.2, 0) ∧ cs.length ≤ 40 ∧ cs.all (casB s) = true := by
  unfold casesX at h1
  split at h1
  · rename_i h2
    split at h1
    · rename_i h3
      refine ⟨?_, h2, h3⟩
      simp only [glossR, h, hk, h2, h3, if_true, glossP]
      split <;> rfl
    · cases h1
  · cases h1
theorem glossR_x {s : Sch} {kind : Int} {cs : List Cas} (h : schB s = true) (hk : inB kind 0 (s.kinds - 1) = true) (h1 : casesX s cs ≠ 0) : glossR s kind cs = (0, 0, 0, casesX s cs) := by
  unfold casesX at *
  split at h1
  · rename_i h2
    split at h1
    · exact absurd rfl h1
    · rename_i h3; simp [glossR, h, hk, h2, h3]
  · rename_i h2; simp [glossR, h, hk, h2]
set_option maxRecDepth 100000 in
set_option maxHeartbeats 8000000 in
theorem lwgloss_ok (s : Sch) (kind : Int) (A : Option Addr) (c : Nat) (cs : List Cas) (w : World) (HRR : Hid (s.wreads w w.heap.size)) (HN0 : Hid s.nil0) (HAA : Hid (CasRead w w.heap.size A cs)) (HC0 : Hid (∀ q ∈ cs, q.nil0))
    (hg : largeB s 600 = false) (h45 : cs.length ≤ 45) (h10 : Hid (∀ q ∈ cs, q.when_.length ≤ 8)) :
    Calls Try.prog 5 #[scv s s.rv, .int .i64 kind, .slice A cs.length c] w fun e w' => e = .returned (.bool true) ∧ Below w.heap.size w w' := by
  obtain ⟨hlen, hall, -⟩ := not_large hg
  have d1 : decide (45 < (cs.length : Int)) = false := by simp; omega
  have d1' : decide (45 < cs.length) = false := by simp; omega
  have hrd := reads_of_weak HRR.out hlen hall
  obtain ⟨x1, x2, x3, er, hcr⟩ : ∃ a b c d, glossR s kind cs = (a, b, c, d) := ⟨_, _, _, _, rfl⟩
  have HCR := Lib.hid hcr; have HR := Lib.hid hrd
  clear hcr hrd hall
  go_enter Try.func5, Try.ntmps5
  go_wp2_with (go_at_call 14; refine (large_any s 600 _ ((HRR.out.below (by (repeat (first | exact Below.refl _ _ | assumption | (refine Below.alloc ?_ (by first | omega | (simp; omega) | (simp; done)) _) | (refine Below.setCell ?_ (by first | omega | (simp; omega) | (simp; done)) _) | (refine Below.drew ?_) | (refine belowN ?_ _) | (refine Below.trans ?_ (Below.mono ‹Below _ _ _› (by first | omega | (simp; omega) | (simp; done)))))))).more (by simp))).mono ?_; rintro _ W1 ⟨rfl, hbx⟩; rw [hg]; have hw1 := bl2 (bla (Below.refl _ _)) hbx; have g1 : Blk W1 w.heap.size #[.int .i64 s.places, .int .i64 s.signs, .int .i64 s.kinds, .int .i64 s.answers, s.rv] 24 := (Blk.at_ rfl).below hbx (by first | omega | (simp; omega) | (simp; done)); (have s0 := g1.cell 0; have s1 := g1.cell 1; have s2 := g1.cell 2; have s3 := g1.cell 3; have s4 := g1.cell 4; simp at s0 s1 s2 s3 s4))
  clear d1 d1' s0 s1 s2 s3 s4
  refine gen_w (fun W => Below w.heap.size w W ∧ Blk W w.heap.size #[.int .i64 s.places, .int .i64 s.signs, .int .i64 s.kinds, .int .i64 s.answers, s.rv] 24) ⟨hw1, g1⟩ ?_
  clear g1 hw1 hbx
  clear W1
  rintro w0 ⟨hw0, g0⟩
  go_loopw [7] (fun i wr => ∃ j : Nat, j ≤ cs.length ∧ i = .int .i64 j ∧ Below w0.heap.size w0 wr) (fun i _ => cs.length - (intOf i).toNat)
  case atStart => exact ⟨0, by omega, rfl, Below.refl _ _⟩
  case round =>
    obtain ⟨j, hj, rfl, hb⟩ := hrel
    have hw1 : Below w.heap.size w wr := bl2 hw0 hb
    have g1 := g0.below hb g0.lt
    by_cases hlt : j < cs.length
    · have hrr := HAA.out.below hw1
      obtain ⟨ab, ao, rfl, hblk, hcell⟩ := hrr.1.at_ (k := j) (fun _ => rfl) hlt
      have h10' := h10.out _ (List.getElem_mem hlt)
      obtain ⟨⟨qa, qc, hqv, -⟩, -, -⟩ := hrr.2.2 _ (List.getElem_mem hlt)
      obtain ⟨q, hqe⟩ : ∃ t, cs[j] = t := ⟨_, rfl⟩
      rw [hqe] at hcell h10' hqv
      have cw0 : wr.cell? ⟨ab, ao + j * 2, none⟩ = some (Value.slice qa q.when_.length qc) := by rw [← hqv]; exact hcell 0 _ rfl
      have hj0 : (0 : Int) ≤ (j : Int) := by omega
      have hj1 : (j : Int) < (cs.length : Int) := by omega
      have d2 : decide (8 < (q.when_.length : Int)) = false := by simp; omega
      have d2' : decide (8 < q.when_.length) = false := by simp; omega
      clear hcell hrr hqe hqv
      go_wp2
      go_roundw
      case rel => exact ⟨j + 1, by omega, by go_num, hb⟩
      case measure => simp [intOf]; omega
    · (have s0 := g1.cell 0; have s1 := g1.cell 1; have s2 := g1.cell 2; have s3 := g1.cell 3; have s4 := g1.cell 4; simp at s0 s1 s2 s3 s4)
      go_wp2_with (first | (go_at_call 17; refine (own_any s _ ((HR.out.below hw1).more hw1.size) HN0.out (by omega)).mono ?_; rintro _ W2 ⟨s', rfl, hpl, hr', -, hbx⟩; have HPL := Lib.hid hpl; have HR' := Lib.hid hr'; clear hpl hr'; have hw2 := bl2 hw1 hbx; have g1 := g1.below hbx g1.lt; (have s0 := g1.cell 0; have s1 := g1.cell 1; have s2 := g1.cell 2; have s3 := g1.cell 3; have s4 := g1.cell 4; simp at s0 s1 s2 s3 s4)) |
        (go_at_call 28; refine (cases_any cs A c _ ((HAA.out.below hw2).more hw2.size) HC0.out (by omega)).mono ?_; rintro _ W3 ⟨A', c', cs', rfl, hcap, -, hpc, hA', hb3⟩; have HPC := Lib.hid hpc; have HA' := Lib.hid hA'; clear hpc hA'; have hw3 := bl2 hw2 hb3; have g1 := g1.below hb3 g1.lt; (have s0 := g1.cell 0; have s1 := g1.cell 1; have s2 := g1.cell 2; have s3 := g1.cell 3; have s4 := g1.cell 4; simp at s0 s1 s2 s3 s4)) |
        (go_at_call 27; refine (gglo_any s' kind cs' A' c' _ hcap ((HR'.out.below hb3).more hb3.size) HA'.out).mono ?_; rw [gloss_cong HPL.out HPC.out, HCR.out]; rintro _ W4 ⟨rfl, hb4⟩; refine Hid.out ?_))
      have hw4 := bl2 hw3 hb4
      have g1 := g1.below hb4 g1.lt
      clear HR' HPL HA' HPC s0 s1 s2 s3 s4
      refine Lib.hid ?_
      refine gen_w (fun W => Below w.heap.size w W ∧ Blk W w.heap.size #[.int .i64 s.places, .int .i64 s.signs, .int .i64 s.kinds, .int .i64 s.answers, s.rv] 24) ⟨hw4, g1⟩ ?_
      clear g1 hw4 hb4 hw3 hb3 hbx hw1 hw2 hb
      rintro W ⟨hw, g1⟩
      (have s0 := g1.cell 0; have s1 := g1.cell 1; have s2 := g1.cell 2; have s3 := g1.cell 3; have s4 := g1.cell 4; simp at s0 s1 s2 s3 s4)
      cases hv : schB s with
      | false =>
        have h2 := HCR.out; simp only [glossR, hv] at h2; cases h2
        go_wp2_with (first | (go_at_call 19; refine (rschool_any s _ ((HR.out.below hw).more hw.size)).mono ?_; rw [hv]; rintro _ Wx ⟨rfl, hbx⟩; have hwx := bl2 hw hbx; have g1 := g1.below hbx g1.lt; (have s0 := g1.cell 0; have s1 := g1.cell 1; have s2 := g1.cell 2; have s3 := g1.cell 3; have s4 := g1.cell 4; simp at s0 s1 s2 s3 s4)) | (go_at_call 15; refine (known_any _).mono ?_; rintro _ Wk ⟨rfl, hbk'⟩))
        go_ret
        exact ⟨rfl, bl2 hwx hbk'⟩
      | true =>
        have V := valid_of HR.out.oks hv
        have hsm := small_of_sch hv
        have han := V.answers
        have V3 := v3_of HR.out.oks hv
        by_cases hk0 : kind < 0
        · have e : inB kind 0 (s.kinds - 1) = false := inB_not.2 (.inl hk0)
          have h2 := HCR.out; rw [glossR_k hv e] at h2; cases h2
          have q3 : decide (0 ≤ kind) = false := by simpa using hk0
          clear e HCR V V3 hk0
          go_wp2_with (first | (go_at_call 19; refine (rschool_any s _ ((HR.out.below hw).more hw.size)).mono ?_; rw [hv]; rintro _ Wx ⟨rfl, hbx⟩; have hwx := bl2 hw hbx; have g1 := g1.below hbx g1.lt; (have s0 := g1.cell 0; have s1 := g1.cell 1; have s2 := g1.cell 2; have s3 := g1.cell 3; have s4 := g1.cell 4; simp at s0 s1 s2 s3 s4)) | (go_at_call 15; refine (known_any _).mono ?_; rintro _ Wk ⟨rfl, hbk'⟩))
          go_ret
          exact ⟨rfl, bl2 hwx hbk'⟩
        · have q3 : decide (0 ≤ kind) = true := by simpa using hk0
          by_cases hk : kind < s.kinds
          · have e : inB kind 0 (s.kinds - 1) = true := inB_iff.2 ⟨by omega, by omega⟩
            have q4 : decide (kind < s.kinds) = true := by simpa using hk
            by_cases hX : casesX s cs = 0
            · obtain ⟨hkr, h40, hall⟩ := glossR_ok hv e hX
              have h2 := HCR.out; rw [hkr] at h2; cases h2
              have HX := Lib.hid hX; have HA1 := Lib.hid hall; have HV := Lib.hid V; have H3 := Lib.hid V3
              clear hX hall V V3 hkr HCR e
              obtain ⟨z1, hz1⟩ : ∃ z, z = (glossP s kind cs).1 := ⟨_, rfl⟩
              obtain ⟨z2, hz2⟩ : ∃ z, z = (glossP s kind cs).2.1 := ⟨_, rfl⟩
              obtain ⟨z3, hz3⟩ : ∃ z, z = (glossP s kind cs).2.2 := ⟨_, rfl⟩
              rw [← hz1, ← hz2, ← hz3]
              have HZ1 := Lib.hid hz1; have HZ2 := Lib.hid hz2; have HZ3 := Lib.hid hz3
              clear hz1 hz2 hz3
              go_wp2_with (first | (go_at_call 19; refine (rschool_any s _ ((HR.out.below hw).more hw.size)).mono ?_; rw [hv]; rintro _ Wx ⟨rfl, hbx⟩; have hwx := bl2 hw hbx; have g1 := g1.below hbx g1.lt; (have s0 := g1.cell 0; have s1 := g1.cell 1; have s2 := g1.cell 2; have s3 := g1.cell 3; have s4 := g1.cell 4; simp at s0 s1 s2 s3 s4)) | (go_at_call 29; refine (rcases_any s cs A c _ hsm (by omega) (by omega) ((HAA.out.below hwx).more hwx.size)).mono ?_; rw [HX.out]; rintro _ Wy ⟨rfl, hby⟩; have hwy := bl2 hwx hby; have g1 := g1.below hby g1.lt; (have s0 := g1.cell 0; have s1 := g1.cell 1; have s2 := g1.cell 2; have s3 := g1.cell 3; have s4 := g1.cell 4; simp at s0 s1 s2 s3 s4)) |
                (go_at_call 30; refine (rgloss_any s HV.out H3.out kind cs A c _ ((HR.out.below hwy).more hwy.size) ((HAA.out.below hwy).more hwy.size) (by omega) hk h40 HA1.out).mono ?_; rw [← HZ1.out, ← HZ2.out, ← HZ3.out]; rintro _ Wz ⟨rfl, hbz⟩) | (go_at_call 15; refine (known_any _).mono ?_; rintro _ Wk ⟨rfl, hbk'⟩))
              go_ret
              exact ⟨rfl, bl2 (bl2 hwy hbz) hbk'⟩
            · have h2 := HCR.out; rw [glossR_x hv e hX] at h2; cases h2
              obtain ⟨X, hXe⟩ : ∃ X, casesX s cs = X := ⟨_, rfl⟩
              rw [hXe] at hX ⊢
              have HX := Lib.hid hXe
              have n1 : (X != 0) = true := by simpa using hX
              have n2 : (X == 0) = false := by simpa using hX
              clear hXe hX V V3 HCR e
              go_wp2_with (first | (go_at_call 19; refine (rschool_any s _ ((HR.out.below hw).more hw.size)).mono ?_; rw [hv]; rintro _ Wx ⟨rfl, hbx⟩; have hwx := bl2 hw hbx; have g1 := g1.below hbx g1.lt; (have s0 := g1.cell 0; have s1 := g1.cell 1; have s2 := g1.cell 2; have s3 := g1.cell 3; have s4 := g1.cell 4; simp at s0 s1 s2 s3 s4)) | (go_at_call 29; refine (rcases_any s cs A c _ hsm (by omega) (by omega) ((HAA.out.below hwx).more hwx.size)).mono ?_; rw [HX.out]; rintro _ Wy ⟨rfl, hby⟩; have hwy := bl2 hwx hby; have g1 := g1.below hby g1.lt; (have s0 := g1.cell 0; have s1 := g1.cell 1; have s2 := g1.cell 2; have s3 := g1.cell 3; have s4 := g1.cell 4; simp at s0 s1 s2 s3 s4)) | (go_at_call 15; refine (known_any _).mono ?_; rintro _ Wk ⟨rfl, hbk'⟩))
              go_ret
              exact ⟨rfl, bl2 hwy hbk'⟩
          · have e : inB kind 0 (s.kinds - 1) = false := inB_not.2 (.inr (by omega))
            have h2 := HCR.out; rw [glossR_k hv e] at h2; cases h2
            have q4 : decide (kind < s.kinds) = false := by simpa using hk
            clear e HCR V V3
            go_wp2_with (first | (go_at_call 19; refine (rschool_any s _ ((HR.out.below hw).more hw.size)).mono ?_; rw [hv]; rintro _ Wx ⟨rfl, hbx⟩; have hwx := bl2 hw hbx; have g1 := g1.below hbx g1.lt; (have s0 := g1.cell 0; have s1 := g1.cell 1; have s2 := g1.cell 2; have s3 := g1.cell 3; have s4 := g1.cell 4; simp at s0 s1 s2 s3 s4)) | (go_at_call 15; refine (known_any _).mono ?_; rintro _ Wk ⟨rfl, hbk'⟩))
            go_ret
            exact ⟨rfl, bl2 hwx hbk'⟩
end Go.Proofs.Ytidlmbajpbbilaa
namespace Go.Proofs.Ytidlmbajpbbilaa
open Go.RowKit

/-- cases in memory, however many and long -/
def CasW (w : World) (B : Nat) (A : Option Addr) (cs : List Cas) : Prop := Sl Cas.cells 2 w B A cs ∧ ∀ c ∈ cs, ((∃ a cap, c.v = .slice a c.when_.length cap ∧ Sl Tst.cells 4 w B a c.when_) ∧ ∀ t ∈ c.when_, t.ok)
theorem CasW.reads {w : World} {B : Nat} {A : Option Addr} {cs : List Cas} (h : CasW w B A cs) (h1 : cs.length ≤ 45) (h2 : ∀ q ∈ cs, q.when_.length ≤ 8) : CasRead w B A cs :=
  ⟨h.1, by omega, fun q hq => ⟨(h.2 q hq).1, by have := h2 q hq; omega, (h.2 q hq).2⟩⟩
set_option maxRecDepth 100000 in
set_option maxHeartbeats 8000000 in
theorem lwgloss_any (s : Sch) (kind : Int) (A : Option Addr) (c : Nat) (cs : List Cas) (w : World) (hr : s.wreads w w.heap.size) (h0 : s.nil0) (hA : CasW w w.heap.size A cs) (hn : ∀ q ∈ cs, q.nil0) :
    Calls Try.prog 5 #[scv s s.rv, .int .i64 kind, .slice A cs.length c] w fun e w' => e = .returned (.bool true) ∧ Below w.heap.size w w' := by
  have HRR := Lib.hid hr; have HAA := Lib.hid hA; have HN0 := Lib.hid h0; have HN := Lib.hid hn
  clear hr hA h0 hn
  by_cases hg : largeB s 600 = true
  · go_enter Try.func5, Try.ntmps5
    go_wp2_with (first | (go_at_call 14; refine (large_any s 600 _ ((HRR.out.below (by (repeat (first | exact Below.refl _ _ | assumption | (refine Below.alloc ?_ (by first | omega | (simp; omega) | (simp; done)) _) | (refine Below.setCell ?_ (by first | omega | (simp; omega) | (simp; done)) _) | (refine Below.drew ?_) | (refine belowN ?_ _) | (refine Below.trans ?_ (Below.mono ‹Below _ _ _› (by first | omega | (simp; omega) | (simp; done)))))))).more (by simp))).mono ?_; rintro _ W1 ⟨rfl, hb1⟩; have hw1 : Below w.heap.size w W1 := bl2 (bla (Below.refl _ _)) hb1; rw [hg]) | (go_at_call 15; refine (known_any _).mono ?_; rintro _ Wk ⟨rfl, hbk'⟩))
    go_ret
    exact ⟨rfl, bl2 hw1 hbk'⟩
  · simp only [Bool.not_eq_true] at hg
    by_cases h45 : cs.length ≤ 45
    · by_cases h10 : ∀ q ∈ cs, q.when_.length ≤ 8
      · exact lwgloss_ok s kind A c cs w HRR HN0 (HAA.out.reads h45 h10) HN hg h45 h10
      · have H10 := Lib.hid h10
        have d1 : decide (45 < (cs.length : Int)) = false := by simp; omega
        have d1' : decide (45 < cs.length) = false := by simp; omega
        clear h10
        go_enter Try.func5, Try.ntmps5
        go_wp2_with (go_at_call 14; refine (large_any s 600 _ ((HRR.out.below (by (repeat (first | exact Below.refl _ _ | assumption | (refine Below.alloc ?_ (by first | omega | (simp; omega) | (simp; done)) _) | (refine Below.setCell ?_ (by first | omega | (simp; omega) | (simp; done)) _) | (refine Below.drew ?_) | (refine belowN ?_ _) | (refine Below.trans ?_ (Below.mono ‹Below _ _ _› (by first | omega | (simp; omega) | (simp; done)))))))).more (by simp))).mono ?_; rintro _ W1 ⟨rfl, hbx⟩; rw [hg]; have hw1 := bl2 (bla (Below.refl _ _)) hbx)
        clear d1 d1'
        refine gen_w (fun W => Below w.heap.size w W) hw1 ?_
        clear hw1 hbx
        clear W1
        intro w0 hw0
        go_loopw [7] (fun i wr => ∃ j : Nat, j ≤ cs.length ∧ i = .int .i64 j ∧ Below w0.heap.size w0 wr ∧ Hid (∀ q ∈ cs.take j, q.when_.length ≤ 8)) (fun i _ => cs.length - (intOf i).toNat)
        case atStart => exact ⟨0, by omega, rfl, Below.refl _ _, fun q hq => by cases hq⟩
        case round =>
          obtain ⟨j, hj, rfl, hb, HT⟩ := hrel
          have hw1 : Below w.heap.size w wr := bl2 hw0 hb
          by_cases hlt : j < cs.length
          · have hrr := (HAA.out.1.below hw1)
            obtain ⟨ab, ao, rfl, hblk, hcell⟩ := hrr.at_ (k := j) (fun _ => rfl) hlt
            have HTK := Lib.hid (List.take_succ_eq_append_getElem hlt)
            obtain ⟨q, hqe⟩ : ∃ t, cs[j] = t := ⟨_, rfl⟩
            obtain ⟨⟨qa, qc, hqv, -⟩, -⟩ := HAA.out.2 _ (List.getElem_mem hlt)
            rw [hqe] at hcell HTK hqv
            have cw0 : wr.cell? ⟨ab, ao + j * 2, none⟩ = some (Value.slice qa q.when_.length qc) := by rw [← hqv]; exact hcell 0 _ rfl
            have hj0 : (0 : Int) ≤ (j : Int) := by omega
            have hj1 : (j : Int) < (cs.length : Int) := by omega
            clear hcell hrr hqe hqv
            by_cases hq10 : q.when_.length ≤ 8
            · have d2 : decide (8 < (q.when_.length : Int)) = false := by simp; omega
              have d2' : decide (8 < q.when_.length) = false := by simp; omega
              go_wp2
              go_roundw
              case rel => exact ⟨j + 1, by omega, by go_num, hb, fun p hp => by
                rw [HTK.out] at hp
                rcases List.mem_append.1 hp with h | h
                · exact HT.out p h
                · obtain rfl : p = q := by simpa using h
                  exact hq10⟩
              case measure => simp [intOf]; omega
            · have d2 : decide (8 < (q.when_.length : Int)) = true := by simp; omega
              have d2' : decide (8 < q.when_.length) = true := by simp; omega
              go_wp2_with (go_at_call 15; refine (known_any _).mono ?_; rintro _ Wk ⟨rfl, hbk'⟩)
              go_ret
              exact ⟨rfl, bl2 hw1 hbk'⟩
          · exact absurd (by have := HT.out; rwa [List.take_of_length_le (by omega)] at this) H10.out
    · have d1 : decide (45 < (cs.length : Int)) = true := by simp; omega
      have d1' : decide (45 < cs.length) = true := by simp; omega
      go_enter Try.func5, Try.ntmps5
      go_wp2_with (first | (go_at_call 14; refine (large_any s 600 _ ((HRR.out.below (by (repeat (first | exact Below.refl _ _ | assumption | (refine Below.alloc ?_ (by first | omega | (simp; omega) | (simp; done)) _) | (refine Below.setCell ?_ (by first | omega | (simp; omega) | (simp; done)) _) | (refine Below.drew ?_) | (refine belowN ?_ _) | (refine Below.trans ?_ (Below.mono ‹Below _ _ _› (by first | omega | (simp; omega) | (simp; done)))))))).more (by simp))).mono ?_; rintro _ W1 ⟨rfl, hb1⟩; have hw1 : Below w.heap.size w W1 := bl2 (bla (Below.refl _ _)) hb1; rw [hg]) | (go_at_call 15; refine (known_any _).mono ?_; rintro _ Wk ⟨rfl, hbk'⟩))
      go_ret
      exact ⟨rfl, bl2 hw1 hbk'⟩
end Go.Proofs.Ytidlmbajpbbilaa

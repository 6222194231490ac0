/- The law SchoolCounts: the walk, valid schools. -/
import Derived.Test.YtidlmbajpbbilaaLcA
namespace Go.Proofs.Ytidlmbajpbbilaa
open Go.RowKit

set_option maxRecDepth 100000 in
set_option maxHeartbeats 8000000 in
theorem lwcounts_k0 (s : Sch) (A : Option Addr) (c : Nat) (sets : List Int) (kind : Int) (w : World) (HRR : Hid (s.wreads w w.heap.size)) (HN0 : Hid s.nil0) (HAA : Hid (Sl setCell1 1 w w.heap.size A sets)) (HO : Hid (∀ x ∈ sets, IsU64 x)) (hn : A = none → c = 0)
    (hg : largeB s 600 = false) (h10 : sets.length ≤ 10) (hv : schB s = true) (hk : kind < 0) :
    Calls Try.prog 3 #[scv s s.rv, .int .i64 kind, .slice A sets.length c] w fun e w' => e = .returned (.bool true) ∧ Below w.heap.size w w' := by
  obtain ⟨hlen, hall, -⟩ := not_large hg
  have d1 : decide (10 < (sets.length : Int)) = false := by simp; omega
  have d1' : decide (10 < sets.length) = false := by simp; omega
  have hrd := reads_of_weak HRR.out hlen hall
  obtain ⟨x1, x2, x3, L, er, hcr⟩ : ∃ a b c d e, countR s kind sets = (a, b, c, d, e) := ⟨_, _, _, _, _, rfl⟩
  have HCR := Lib.hid hcr; have HR := Lib.hid hrd
  clear hcr hrd hall
  go_enter Try.func3, Try.ntmps3
  go_wp2_with (first | (go_at_call 14; refine (large_any s 600 _ ((HRR.out.below (by (repeat (first | exact Below.refl _ _ | assumption | (refine Below.alloc ?_ (by first | omega | (simp; omega) | (simp; done)) _) | (refine Below.setCell ?_ (by first | omega | (simp; omega) | (simp; done)) _) | (refine Below.drew ?_) | (refine belowN ?_ _) | (refine Below.trans ?_ (Below.mono ‹Below _ _ _› (by first | omega | (simp; omega) | (simp; done)))))))).more (by simp))).mono ?_; rintro _ W1 ⟨rfl, hbx⟩; rw [hg]; have hw1 := bl2 (bla (Below.refl _ _)) hbx; have g1 : Blk W1 w.heap.size #[.int .i64 s.places, .int .i64 s.signs, .int .i64 s.kinds, .int .i64 s.answers, s.rv] 24 := (Blk.at_ rfl).below hbx (by first | omega | (simp; omega) | (simp; done)); (have s0 := g1.cell 0; have s1 := g1.cell 1; have s2 := g1.cell 2; have s3 := g1.cell 3; have s4 := g1.cell 4; simp at s0 s1 s2 s3 s4)) |
    (go_at_call 17; refine (own_any s _ ((HR.out.below hw1).more hw1.size) HN0.out (by omega)).mono ?_; rintro _ W2 ⟨s', rfl, hpl, hr', -, hbx⟩; have HPL := Lib.hid hpl; have HR' := Lib.hid hr'; clear hpl hr'; have hw2 := bl2 hw1 hbx; have g1 := g1.below hbx g1.lt; (have s0 := g1.cell 0; have s1 := g1.cell 1; have s2 := g1.cell 2; have s3 := g1.cell 3; have s4 := g1.cell 4; simp at s0 s1 s2 s3 s4)) |
    (go_at_call 18; refine (lsets_any A c sets _ (by omega) hn (oneCell_sets _) ((HAA.out.below hw2).more hw2.size)).mono ?_; rintro _ W3 ⟨v, rfl, hown, hb3⟩; obtain ⟨A', c', rfl, hA'⟩ := Sl.of_own hown; have HA' := Lib.hid hA'; clear hown hA'; have hw3 := bl2 hw2 hb3; have g1 := g1.below hb3 g1.lt; (have s0 := g1.cell 0; have s1 := g1.cell 1; have s2 := g1.cell 2; have s3 := g1.cell 3; have s4 := g1.cell 4; simp at s0 s1 s2 s3 s4)) |
    (go_at_call 16; refine (count_any s' kind sets A' c' _ ((HR'.out.below hb3).more hb3.size) (by omega) HO.out HA'.out).mono ?_; rw [count_cong HPL.out, HCR.out]; rintro _ W4 ⟨CA, cc, rfl, hCA, hb4⟩; refine Hid.out ?_))
  have hw4 := bl2 hw3 hb4
  have g1 := g1.below hb4 g1.lt
  (have s0 := g1.cell 0; have s1 := g1.cell 1; have s2 := g1.cell 2; have s3 := g1.cell 3; have s4 := g1.cell 4; simp at s0 s1 s2 s3 s4)
  have SC := Lib.hid hCA
  clear hCA HR' HPL HA'
  refine Lib.hid ?_
  refine gen_w (fun W => Below w.heap.size w W ∧ Blk W w.heap.size #[.int .i64 s.places, .int .i64 s.signs, .int .i64 s.kinds, .int .i64 s.answers, s.rv] 24 ∧ Hid (Sl intCell 1 W W.heap.size CA L)) ⟨hw4, g1, SC⟩ ?_
  clear SC s0 s1 s2 s3 s4 g1 hw4 hb4 hw3 hb3 hbx hw1 hw2 d1 d1'
  rintro W ⟨hw, g1, SC⟩
  have l0 := g1.lt
  (have s0 := g1.cell 0; have s1 := g1.cell 1; have s2 := g1.cell 2; have s3 := g1.cell 3; have s4 := g1.cell 4; simp at s0 s1 s2 s3 s4)
  have e : inB kind 0 (s.kinds - 1) = false := inB_not.2 (.inl hk)
  have h2 := HCR.out; simp only [countR, hv, e] at h2; cases h2
  have q3 : decide (kind < 0) = true := by simpa using hk
  clear e HCR
  go_wp2_with (first | (go_at_call 19; refine (rschool_any s _ ((HR.out.below (bla hw)).more (bla hw).size)).mono ?_; rw [hv]; rintro _ Wx ⟨rfl, hbx⟩; have hwx : Below w.heap.size w Wx := bl3 hw hbx; have hxx : Below W.heap.size W Wx := bl3 (Below.refl _ _) hbx; have g1 := g1.below hxx g1.lt; have g3 := (Blk.new W _ _).below hbx (by simp); (have s0 := g1.cell 0; have s1 := g1.cell 1; have s2 := g1.cell 2; have s3 := g1.cell 3; have s4 := g1.cell 4; simp at s0 s1 s2 s3 s4); (have k0 := g3.cell 0; have k1 := g3.cell 1; have k2 := g3.cell 2; have k3 := g3.cell 3; simp at k0 k1 k2 k3)) | (go_at_call 15; refine (known_any _).mono ?_; rintro _ Wk ⟨rfl, hbk'⟩))
  go_ret
  exact ⟨rfl, bl2 hwx hbk'⟩
set_option maxRecDepth 100000 in
set_option maxHeartbeats 8000000 in
theorem lwcounts_k1 (s : Sch) (A : Option Addr) (c : Nat) (sets : List Int) (kind : Int) (w : World) (HRR : Hid (s.wreads w w.heap.size)) (HN0 : Hid s.nil0) (HAA : Hid (Sl setCell1 1 w w.heap.size A sets)) (HO : Hid (∀ x ∈ sets, IsU64 x)) (hn : A = none → c = 0)
    (hg : largeB s 600 = false) (h10 : sets.length ≤ 10) (hv : schB s = true) (hk0 : 0 ≤ kind) (hk : s.kinds ≤ kind) :
    Calls Try.prog 3 #[scv s s.rv, .int .i64 kind, .slice A sets.length c] w fun e w' => e = .returned (.bool true) ∧ Below w.heap.size w w' := by
  obtain ⟨hlen, hall, -⟩ := not_large hg
  have d1 : decide (10 < (sets.length : Int)) = false := by simp; omega
  have d1' : decide (10 < sets.length) = false := by simp; omega
  have hrd := reads_of_weak HRR.out hlen hall
  obtain ⟨x1, x2, x3, L, er, hcr⟩ : ∃ a b c d e, countR s kind sets = (a, b, c, d, e) := ⟨_, _, _, _, _, rfl⟩
  have HCR := Lib.hid hcr; have HR := Lib.hid hrd
  clear hcr hrd hall
  go_enter Try.func3, Try.ntmps3
  go_wp2_with (first | (go_at_call 14; refine (large_any s 600 _ ((HRR.out.below (by (repeat (first | exact Below.refl _ _ | assumption | (refine Below.alloc ?_ (by first | omega | (simp; omega) | (simp; done)) _) | (refine Below.setCell ?_ (by first | omega | (simp; omega) | (simp; done)) _) | (refine Below.drew ?_) | (refine belowN ?_ _) | (refine Below.trans ?_ (Below.mono ‹Below _ _ _› (by first | omega | (simp; omega) | (simp; done)))))))).more (by simp))).mono ?_; rintro _ W1 ⟨rfl, hbx⟩; rw [hg]; have hw1 := bl2 (bla (Below.refl _ _)) hbx; have g1 : Blk W1 w.heap.size #[.int .i64 s.places, .int .i64 s.signs, .int .i64 s.kinds, .int .i64 s.answers, s.rv] 24 := (Blk.at_ rfl).below hbx (by first | omega | (simp; omega) | (simp; done)); (have s0 := g1.cell 0; have s1 := g1.cell 1; have s2 := g1.cell 2; have s3 := g1.cell 3; have s4 := g1.cell 4; simp at s0 s1 s2 s3 s4)) |
    (go_at_call 17; refine (own_any s _ ((HR.out.below hw1).more hw1.size) HN0.out (by omega)).mono ?_; rintro _ W2 ⟨s', rfl, hpl, hr', -, hbx⟩; have HPL := Lib.hid hpl; have HR' := Lib.hid hr'; clear hpl hr'; have hw2 := bl2 hw1 hbx; have g1 := g1.below hbx g1.lt; (have s0 := g1.cell 0; have s1 := g1.cell 1; have s2 := g1.cell 2; have s3 := g1.cell 3; have s4 := g1.cell 4; simp at s0 s1 s2 s3 s4)) |
    (go_at_call 18; refine (lsets_any A c sets _ (by omega) hn (oneCell_sets _) ((HAA.out.below hw2).more hw2.size)).mono ?_; rintro _ W3 ⟨v, rfl, hown, hb3⟩; obtain ⟨A', c', rfl, hA'⟩ := Sl.of_own hown; have HA' := Lib.hid hA'; clear hown hA'; have hw3 := bl2 hw2 hb3; have g1 := g1.below hb3 g1.lt; (have s0 := g1.cell 0; have s1 := g1.cell 1; have s2 := g1.cell 2; have s3 := g1.cell 3; have s4 := g1.cell 4; simp at s0 s1 s2 s3 s4)) |
    (go_at_call 16; refine (count_any s' kind sets A' c' _ ((HR'.out.below hb3).more hb3.size) (by omega) HO.out HA'.out).mono ?_; rw [count_cong HPL.out, HCR.out]; rintro _ W4 ⟨CA, cc, rfl, hCA, hb4⟩; refine Hid.out ?_))
  have hw4 := bl2 hw3 hb4
  have g1 := g1.below hb4 g1.lt
  (have s0 := g1.cell 0; have s1 := g1.cell 1; have s2 := g1.cell 2; have s3 := g1.cell 3; have s4 := g1.cell 4; simp at s0 s1 s2 s3 s4)
  have SC := Lib.hid hCA
  clear hCA HR' HPL HA'
  refine Lib.hid ?_
  refine gen_w (fun W => Below w.heap.size w W ∧ Blk W w.heap.size #[.int .i64 s.places, .int .i64 s.signs, .int .i64 s.kinds, .int .i64 s.answers, s.rv] 24 ∧ Hid (Sl intCell 1 W W.heap.size CA L)) ⟨hw4, g1, SC⟩ ?_
  clear SC s0 s1 s2 s3 s4 g1 hw4 hb4 hw3 hb3 hbx hw1 hw2 d1 d1'
  rintro W ⟨hw, g1, SC⟩
  have l0 := g1.lt
  (have s0 := g1.cell 0; have s1 := g1.cell 1; have s2 := g1.cell 2; have s3 := g1.cell 3; have s4 := g1.cell 4; simp at s0 s1 s2 s3 s4)
  have e : inB kind 0 (s.kinds - 1) = false := inB_not.2 (.inr (by omega))
  have h2 := HCR.out; simp only [countR, hv, e] at h2; cases h2
  have q3 : decide (kind < 0) = false := by simpa using hk0
  have q4 : decide (s.kinds ≤ kind) = true := by simpa using hk
  clear e HCR
  go_wp2_with (first | (go_at_call 19; refine (rschool_any s _ ((HR.out.below (bla hw)).more (bla hw).size)).mono ?_; rw [hv]; rintro _ Wx ⟨rfl, hbx⟩; have hwx : Below w.heap.size w Wx := bl3 hw hbx; have hxx : Below W.heap.size W Wx := bl3 (Below.refl _ _) hbx; have g1 := g1.below hxx g1.lt; have g3 := (Blk.new W _ _).below hbx (by simp); (have s0 := g1.cell 0; have s1 := g1.cell 1; have s2 := g1.cell 2; have s3 := g1.cell 3; have s4 := g1.cell 4; simp at s0 s1 s2 s3 s4); (have k0 := g3.cell 0; have k1 := g3.cell 1; have k2 := g3.cell 2; have k3 := g3.cell 3; simp at k0 k1 k2 k3)) | (go_at_call 15; refine (known_any _).mono ?_; rintro _ Wk ⟨rfl, hbk'⟩))
  go_ret
  exact ⟨rfl, bl2 hwx hbk'⟩
set_option maxRecDepth 100000 in
set_option maxHeartbeats 8000000 in
theorem lwcounts_form (s : Sch) (A : Option Addr) (c : Nat) (sets : List Int) (kind : Int) (w : World) (HRR : Hid (s.wreads w w.heap.size)) (HN0 : Hid s.nil0) (HAA : Hid (Sl setCell1 1 w w.heap.size A sets)) (HO : Hid (∀ x ∈ sets, IsU64 x)) (hn : A = none → c = 0)
    (hg : largeB s 600 = false) (h10 : sets.length ≤ 10) (hv : schB s = true) (hk0 : 0 ≤ kind) (hk : kind < s.kinds) (hrg : regB s sets = false) :
    Calls Try.prog 3 #[scv s s.rv, .int .i64 kind, .slice A sets.length c] w fun e w' => e = .returned (.bool true) ∧ Below w.heap.size w w' := by
  obtain ⟨hlen, hall, -⟩ := not_large hg
  have d1 : decide (10 < (sets.length : Int)) = false := by simp; omega
  have d1' : decide (10 < sets.length) = false := by simp; omega
  have hrd := reads_of_weak HRR.out hlen hall
  obtain ⟨x1, x2, x3, L, er, hcr⟩ : ∃ a b c d e, countR s kind sets = (a, b, c, d, e) := ⟨_, _, _, _, _, rfl⟩
  have HCR := Lib.hid hcr; have HR := Lib.hid hrd
  clear hcr hrd hall
  go_enter Try.func3, Try.ntmps3
  go_wp2_with (first | (go_at_call 14; refine (large_any s 600 _ ((HRR.out.below (by (repeat (first | exact Below.refl _ _ | assumption | (refine Below.alloc ?_ (by first | omega | (simp; omega) | (simp; done)) _) | (refine Below.setCell ?_ (by first | omega | (simp; omega) | (simp; done)) _) | (refine Below.drew ?_) | (refine belowN ?_ _) | (refine Below.trans ?_ (Below.mono ‹Below _ _ _› (by first | omega | (simp; omega) | (simp; done)))))))).more (by simp))).mono ?_; rintro _ W1 ⟨rfl, hbx⟩; rw [hg]; have hw1 := bl2 (bla (Below.refl _ _)) hbx; have g1 : Blk W1 w.heap.size #[.int .i64 s.places, .int .i64 s.signs, .int .i64 s.kinds, .int .i64 s.answers, s.rv] 24 := (Blk.at_ rfl).below hbx (by first | omega | (simp; omega) | (simp; done)); (have s0 := g1.cell 0; have s1 := g1.cell 1; have s2 := g1.cell 2; have s3 := g1.cell 3; have s4 := g1.cell 4; simp at s0 s1 s2 s3 s4)) |
    (go_at_call 17; refine (own_any s _ ((HR.out.below hw1).more hw1.size) HN0.out (by omega)).mono ?_; rintro _ W2 ⟨s', rfl, hpl, hr', -, hbx⟩; have HPL := Lib.hid hpl; have HR' := Lib.hid hr'; clear hpl hr'; have hw2 := bl2 hw1 hbx; have g1 := g1.below hbx g1.lt; (have s0 := g1.cell 0; have s1 := g1.cell 1; have s2 := g1.cell 2; have s3 := g1.cell 3; have s4 := g1.cell 4; simp at s0 s1 s2 s3 s4)) |
    (go_at_call 18; refine (lsets_any A c sets _ (by omega) hn (oneCell_sets _) ((HAA.out.below hw2).more hw2.size)).mono ?_; rintro _ W3 ⟨v, rfl, hown, hb3⟩; obtain ⟨A', c', rfl, hA'⟩ := Sl.of_own hown; have HA' := Lib.hid hA'; clear hown hA'; have hw3 := bl2 hw2 hb3; have g1 := g1.below hb3 g1.lt; (have s0 := g1.cell 0; have s1 := g1.cell 1; have s2 := g1.cell 2; have s3 := g1.cell 3; have s4 := g1.cell 4; simp at s0 s1 s2 s3 s4)) |
    (go_at_call 16; refine (count_any s' kind sets A' c' _ ((HR'.out.below hb3).more hb3.size) (by omega) HO.out HA'.out).mono ?_; rw [count_cong HPL.out, HCR.out]; rintro _ W4 ⟨CA, cc, rfl, hCA, hb4⟩; refine Hid.out ?_))
  have hw4 := bl2 hw3 hb4
  have g1 := g1.below hb4 g1.lt
  (have s0 := g1.cell 0; have s1 := g1.cell 1; have s2 := g1.cell 2; have s3 := g1.cell 3; have s4 := g1.cell 4; simp at s0 s1 s2 s3 s4)
  have SC := Lib.hid hCA
  clear hCA HR' HPL HA'
  refine Lib.hid ?_
  refine gen_w (fun W => Below w.heap.size w W ∧ Blk W w.heap.size #[.int .i64 s.places, .int .i64 s.signs, .int .i64 s.kinds, .int .i64 s.answers, s.rv] 24 ∧ Hid (Sl intCell 1 W W.heap.size CA L)) ⟨hw4, g1, SC⟩ ?_
  clear SC s0 s1 s2 s3 s4 g1 hw4 hb4 hw3 hb3 hbx hw1 hw2 d1 d1'
  rintro W ⟨hw, g1, SC⟩
  have l0 := g1.lt
  (have s0 := g1.cell 0; have s1 := g1.cell 1; have s2 := g1.cell 2; have s3 := g1.cell 3; have s4 := g1.cell 4; simp at s0 s1 s2 s3 s4)
  have e : inB kind 0 (s.kinds - 1) = true := inB_iff.2 ⟨hk0, by omega⟩
  have h2 := HCR.out; simp only [countR, hv, e, hrg] at h2; cases h2
  have q3 : decide (kind < 0) = false := by simpa using hk0
  have q4 : decide (s.kinds ≤ kind) = false := by simpa using hk
  have hsm := small_of_sch hv
  have HRG := Lib.hid hrg
  clear e HCR hrg
  go_wp2_with (first | (go_at_call 19; refine (rschool_any s _ ((HR.out.below (bla hw)).more (bla hw).size)).mono ?_; rw [hv]; rintro _ Wx ⟨rfl, hbx⟩; have hwx : Below w.heap.size w Wx := bl3 hw hbx; have hxx : Below W.heap.size W Wx := bl3 (Below.refl _ _) hbx; have g1 := g1.below hxx g1.lt; have g3 := (Blk.new W _ _).below hbx (by simp); (have s0 := g1.cell 0; have s1 := g1.cell 1; have s2 := g1.cell 2; have s3 := g1.cell 3; have s4 := g1.cell 4; simp at s0 s1 s2 s3 s4); (have k0 := g3.cell 0; have k1 := g3.cell 1; have k2 := g3.cell 2; have k3 := g3.cell 3; simp at k0 k1 k2 k3)) | (go_at_call 20; refine (rregion_any s s.rv A c sets _ hsm (by omega) HO.out ((HAA.out.below hwx).more hwx.size)).mono ?_; rw [HRG.out]; rintro _ Wy ⟨rfl, hby⟩; have hwy : Below w.heap.size w Wy := bl2 hwx hby; have hxy : Below W.heap.size W Wy := bl2 hxx hby; have g1 := g1.below hby g1.lt; have g3 := g3.below hby g3.lt; (have s0 := g1.cell 0; have s1 := g1.cell 1; have s2 := g1.cell 2; have s3 := g1.cell 3; have s4 := g1.cell 4; simp at s0 s1 s2 s3 s4); (have k0 := g3.cell 0; have k1 := g3.cell 1; have k2 := g3.cell 2; have k3 := g3.cell 3; simp at k0 k1 k2 k3)) | (go_at_call 15; refine (known_any _).mono ?_; rintro _ Wk ⟨rfl, hbk'⟩))
  go_ret
  exact ⟨rfl, bl2 hwy hbk'⟩
set_option maxRecDepth 100000 in
set_option maxHeartbeats 8000000 in
theorem lwcounts_good (s : Sch) (A : Option Addr) (c : Nat) (sets : List Int) (kind : Int) (w : World) (HRR : Hid (s.wreads w w.heap.size)) (HN0 : Hid s.nil0) (HAA : Hid (Sl setCell1 1 w w.heap.size A sets)) (HO : Hid (∀ x ∈ sets, IsU64 x)) (hn : A = none → c = 0)
    (hg : largeB s 600 = false) (h10 : sets.length ≤ 10) (hv : schB s = true) (hk0 : 0 ≤ kind) (hk : kind < s.kinds) (hrg : regB s sets = true) :
    Calls Try.prog 3 #[scv s s.rv, .int .i64 kind, .slice A sets.length c] w fun e w' => e = .returned (.bool true) ∧ Below w.heap.size w w' := by
  obtain ⟨hlen, hall, -⟩ := not_large hg
  have d1 : decide (10 < (sets.length : Int)) = false := by simp; omega
  have d1' : decide (10 < sets.length) = false := by simp; omega
  have hrd := reads_of_weak HRR.out hlen hall
  obtain ⟨x1, x2, x3, L, er, hcr⟩ : ∃ a b c d e, countR s kind sets = (a, b, c, d, e) := ⟨_, _, _, _, _, rfl⟩
  have HCR := Lib.hid hcr; have HR := Lib.hid hrd
  clear hcr hrd hall
  go_enter Try.func3, Try.ntmps3
  go_wp2_with (first | (go_at_call 14; refine (large_any s 600 _ ((HRR.out.below (by (repeat (first | exact Below.refl _ _ | assumption | (refine Below.alloc ?_ (by first | omega | (simp; omega) | (simp; done)) _) | (refine Below.setCell ?_ (by first | omega | (simp; omega) | (simp; done)) _) | (refine Below.drew ?_) | (refine belowN ?_ _) | (refine Below.trans ?_ (Below.mono ‹Below _ _ _› (by first | omega | (simp; omega) | (simp; done)))))))).more (by simp))).mono ?_; rintro _ W1 ⟨rfl, hbx⟩; rw [hg]; have hw1 := bl2 (bla (Below.refl _ _)) hbx; have g1 : Blk W1 w.heap.size #[.int .i64 s.places, .int .i64 s.signs, .int .i64 s.kinds, .int .i64 s.answers, s.rv] 24 := (Blk.at_ rfl).below hbx (by first | omega | (simp; omega) | (simp; done)); (have s0 := g1.cell 0; have s1 := g1.cell 1; have s2 := g1.cell 2; have s3 := g1.cell 3; have s4 := g1.cell 4; simp at s0 s1 s2 s3 s4)) |
    (go_at_call 17; refine (own_any s _ ((HR.out.below hw1).more hw1.size) HN0.out (by omega)).mono ?_; rintro _ W2 ⟨s', rfl, hpl, hr', -, hbx⟩; have HPL := Lib.hid hpl; have HR' := Lib.hid hr'; clear hpl hr'; have hw2 := bl2 hw1 hbx; have g1 := g1.below hbx g1.lt; (have s0 := g1.cell 0; have s1 := g1.cell 1; have s2 := g1.cell 2; have s3 := g1.cell 3; have s4 := g1.cell 4; simp at s0 s1 s2 s3 s4)) |
    (go_at_call 18; refine (lsets_any A c sets _ (by omega) hn (oneCell_sets _) ((HAA.out.below hw2).more hw2.size)).mono ?_; rintro _ W3 ⟨v, rfl, hown, hb3⟩; obtain ⟨A', c', rfl, hA'⟩ := Sl.of_own hown; have HA' := Lib.hid hA'; clear hown hA'; have hw3 := bl2 hw2 hb3; have g1 := g1.below hb3 g1.lt; (have s0 := g1.cell 0; have s1 := g1.cell 1; have s2 := g1.cell 2; have s3 := g1.cell 3; have s4 := g1.cell 4; simp at s0 s1 s2 s3 s4)) |
    (go_at_call 16; refine (count_any s' kind sets A' c' _ ((HR'.out.below hb3).more hb3.size) (by omega) HO.out HA'.out).mono ?_; rw [count_cong HPL.out, HCR.out]; rintro _ W4 ⟨CA, cc, rfl, hCA, hb4⟩; refine Hid.out ?_))
  have hw4 := bl2 hw3 hb4
  have g1 := g1.below hb4 g1.lt
  (have s0 := g1.cell 0; have s1 := g1.cell 1; have s2 := g1.cell 2; have s3 := g1.cell 3; have s4 := g1.cell 4; simp at s0 s1 s2 s3 s4)
  have SC := Lib.hid hCA
  clear hCA HR' HPL HA'
  refine Lib.hid ?_
  refine gen_w (fun W => Below w.heap.size w W ∧ Blk W w.heap.size #[.int .i64 s.places, .int .i64 s.signs, .int .i64 s.kinds, .int .i64 s.answers, s.rv] 24 ∧ Hid (Sl intCell 1 W W.heap.size CA L)) ⟨hw4, g1, SC⟩ ?_
  clear SC s0 s1 s2 s3 s4 g1 hw4 hb4 hw3 hb3 hbx hw1 hw2 d1 d1'
  rintro W ⟨hw, g1, SC⟩
  have l0 := g1.lt
  (have s0 := g1.cell 0; have s1 := g1.cell 1; have s2 := g1.cell 2; have s3 := g1.cell 3; have s4 := g1.cell 4; simp at s0 s1 s2 s3 s4)
  have e : inB kind 0 (s.kinds - 1) = true := inB_iff.2 ⟨hk0, by omega⟩
  have h2 : er = 0 ∧ censusP s kind sets = (x1, x2, x3, L) := by
    have h3 := HCR.out; simp only [countR, hv, e, hrg, if_true, Prod.mk.injEq] at h3
    obtain ⟨a1, a2, a3, a4, a5⟩ := h3
    exact ⟨a5.symm, by simp only [censusP, a1, a2, a3, a4]⟩
  obtain ⟨rfl, hcp⟩ := h2
  have HCP := Lib.hid hcp
  have V := valid_of HR.out.oks hv
  have hLL : L.length ≤ 1000000 := by
    have h3 : (censusP s kind sets).2.2.2 = L := by rw [hcp]
    rw [← h3]; exact lenL V sets kind _
  have HV := Lib.hid V
  have HV3 := Lib.hid (v3_of HR.out.oks hv)
  have q3 : decide (kind < 0) = false := by simpa using hk0
  have q4 : decide (s.kinds ≤ kind) = false := by simpa using hk
  have hsm := small_of_sch hv
  have HRG := Lib.hid hrg
  have HK := Lib.hid e
  clear e HCR hrg hcp V
  go_wp2_with (first | (go_at_call 19; refine (rschool_any s _ ((HR.out.below (bla hw)).more (bla hw).size)).mono ?_; rw [hv]; rintro _ Wx ⟨rfl, hbx⟩; have hwx : Below w.heap.size w Wx := bl3 hw hbx; have hxx : Below W.heap.size W Wx := bl3 (Below.refl _ _) hbx; have g1 := g1.below hxx g1.lt; have g3 := (Blk.new W _ _).below hbx (by simp); (have s0 := g1.cell 0; have s1 := g1.cell 1; have s2 := g1.cell 2; have s3 := g1.cell 3; have s4 := g1.cell 4; simp at s0 s1 s2 s3 s4); (have k0 := g3.cell 0; have k1 := g3.cell 1; have k2 := g3.cell 2; have k3 := g3.cell 3; simp at k0 k1 k2 k3)) | (go_at_call 20; refine (rregion_any s s.rv A c sets _ hsm (by omega) HO.out ((HAA.out.below hwx).more hwx.size)).mono ?_; rw [HRG.out]; rintro _ Wy ⟨rfl, hby⟩; have hwy : Below w.heap.size w Wy := bl2 hwx hby; have hxy : Below W.heap.size W Wy := bl2 hxx hby; have g1 := g1.below hby g1.lt; have g3 := g3.below hby g3.lt; (have s0 := g1.cell 0; have s1 := g1.cell 1; have s2 := g1.cell 2; have s3 := g1.cell 3; have s4 := g1.cell 4; simp at s0 s1 s2 s3 s4); (have k0 := g3.cell 0; have k1 := g3.cell 1; have k2 := g3.cell 2; have k3 := g3.cell 3; simp at k0 k1 k2 k3)) | (go_at_call 21; refine (rcount_any s HV.out HV3.out kind sets A c _ ((HR.out.below hwy).more hwy.size) HK.out HRG.out HO.out ((HAA.out.below hwy).more hwy.size)).mono ?_; rw [HCP.out]; rintro _ Wz ⟨DA, dc, rfl, hDA, hbz⟩; refine Hid.out ?_))
  have hwz : Below w.heap.size w Wz := bl2 hwy hbz
  have hxz : Below W.heap.size W Wz := bl2 hxy hbz
  have g3 := g3.below hbz g3.lt
  have l3 := g3.lt
  (have k0 := g3.cell 0; have k1 := g3.cell 1; have k2 := g3.cell 2; have k3 := g3.cell 3; simp at k0 k1 k2 k3)
  have SD := Lib.hid hDA
  clear hDA s0 s1 s2 s3 s4 g1
  refine Lib.hid ?_
  go_wp2_with (first | (go_at_call 22; refine (lsame_any CA DA cc dc L L _ hLL ((SC.out.below (bla hxz)).more (bla hxz).size) (sl_al SD.out (Below.refl _ _))).mono ?_; rintro _ Wu ⟨e1, hbu⟩; rw [beq_self_eq_true] at e1; subst e1) | (go_at_call 15; refine (known_any _).mono ?_; rintro _ Wk ⟨rfl, hbk'⟩))
  go_ret
  exact ⟨rfl, bl2 (bl3 hwz hbu) hbk'⟩
set_option maxRecDepth 100000 in
set_option maxHeartbeats 8000000 in
theorem lwcounts_any (s : Sch) (A : Option Addr) (c : Nat) (sets : List Int) (kind : Int) (w : World) (hr : s.wreads w w.heap.size) (h0 : s.nil0) (hA : Sl setCell1 1 w w.heap.size A sets) (ho : ∀ x ∈ sets, IsU64 x) (hn : A = none → c = 0) :
    Calls Try.prog 3 #[scv s s.rv, .int .i64 kind, .slice A sets.length c] w fun e w' => e = .returned (.bool true) ∧ Below w.heap.size w w' := by
  have HRR := Lib.hid hr; have HAA := Lib.hid hA; have HN0 := Lib.hid h0; have HO := Lib.hid ho
  clear hr hA h0 ho
  by_cases hg : largeB s 600 = true
  · go_enter Try.func3, Try.ntmps3
    go_wp2_with (first | (go_at_call 14; refine (large_any s 600 _ ((HRR.out.below (by (repeat (first | exact Below.refl _ _ | assumption | (refine Below.alloc ?_ (by first | omega | (simp; omega) | (simp; done)) _) | (refine Below.setCell ?_ (by first | omega | (simp; omega) | (simp; done)) _) | (refine Below.drew ?_) | (refine belowN ?_ _) | (refine Below.trans ?_ (Below.mono ‹Below _ _ _› (by first | omega | (simp; omega) | (simp; done)))))))).more (by simp))).mono ?_; rintro _ W1 ⟨rfl, hb1⟩; have hw1 : Below w.heap.size w W1 := bl2 (bla (Below.refl _ _)) hb1; rw [hg]) | (go_at_call 15; refine (known_any _).mono ?_; rintro _ Wk ⟨rfl, hbk'⟩))
    go_ret
    exact ⟨rfl, bl2 hw1 hbk'⟩
  · simp only [Bool.not_eq_true] at hg
    by_cases h10 : sets.length ≤ 10
    · cases hv : schB s with
      | false => exact lwcounts_no s A c sets kind w HRR HN0 HAA HO hn hg h10 hv
      | true =>
        by_cases hk0 : kind < 0
        · exact lwcounts_k0 s A c sets kind w HRR HN0 HAA HO hn hg h10 hv hk0
        · by_cases hk : kind < s.kinds
          · cases hrg : regB s sets with
            | false => exact lwcounts_form s A c sets kind w HRR HN0 HAA HO hn hg h10 hv (by omega) hk hrg
            | true => exact lwcounts_good s A c sets kind w HRR HN0 HAA HO hn hg h10 hv (by omega) hk hrg
          · exact lwcounts_k1 s A c sets kind w HRR HN0 HAA HO hn hg h10 hv (by omega) (by omega)
    · have d1 : decide (10 < (sets.length : Int)) = true := by simp; omega
      have d1' : decide (10 < sets.length) = true := by simp; omega
      go_enter Try.func3, Try.ntmps3
      go_wp2_with (first | (go_at_call 14; refine (large_any s 600 _ ((HRR.out.below (by (repeat (first | exact Below.refl _ _ | assumption | (refine Below.alloc ?_ (by first | omega | (simp; omega) | (simp; done)) _) | (refine Below.setCell ?_ (by first | omega | (simp; omega) | (simp; done)) _) | (refine Below.drew ?_) | (refine belowN ?_ _) | (refine Below.trans ?_ (Below.mono ‹Below _ _ _› (by first | omega | (simp; omega) | (simp; done)))))))).more (by simp))).mono ?_; rintro _ W1 ⟨rfl, hb1⟩; have hw1 : Below w.heap.size w W1 := bl2 (bla (Below.refl _ _)) hb1; rw [hg]) | (go_at_call 15; refine (known_any _).mono ?_; rintro _ Wk ⟨rfl, hbk'⟩))
      go_ret
      exact ⟨rfl, bl2 hw1 hbk'⟩
end Go.Proofs.Ytidlmbajpbbilaa

/- The law SchoolCounts: the walk. -/
import Derived.Test.YtidlmbajpbbilaaRgA
import Derived.Test.YtidlmbajpbbilaaLwA
namespace Go.Proofs.Ytidlmbajpbbilaa
open Go.RowKit

theorem oneCell_sets (l : List Int) : ∀ u ∈ flat setCell1 l, u.oneCell' = true := fun u hu => by
  obtain ⟨t, ht, hu⟩ := List.mem_flatMap.1 hu
  simp only [List.mem_cons, List.not_mem_nil, or_false] at hu
  subst hu; simp [Value.oneCell']
theorem count_cong {s s' : Sch} (h : s'.pl = s.pl) (kind : Int) (sets : List Int) : countR s' kind sets = countR s kind sets := by rw [← countR_pl s', h, countR_pl]
theorem lenL {s : Sch} (V : Valid s) (sets : List Int) (kind : Int) (k : Nat) : (saidL s sets kind k).length ≤ 1000000 := by
  rw [saidL_len]; have := V.answers; omega
set_option maxRecDepth 100000 in
set_option maxHeartbeats 8000000 in
theorem lwcounts_no (s : Sch) (A : Option Addr) (c : Nat) (sets : List Int) (kind : Int) (w : World) (HRR : Hid (s.wreads w w.heap.size)) (HN0 : Hid s.nil0) (HAA : Hid (Sl setCell1 1 w w.heap.size A sets)) (HO : Hid (∀ x ∈ sets, IsU64 x)) (hn : A = none → c = 0)
    (hg : largeB s 600 = false) (h10 : sets.length ≤ 10) (hv : schB s = false) :
    Calls Try.prog 3 #[scv s s.rv, .int .i64 kind, .slice A sets.length c] w fun e w' => e = .returned (.bool true) ∧ Below w.heap.size w w' := by
  obtain ⟨hlen, hall, -⟩ := not_large hg
  have d1 : decide (10 < (sets.length : Int)) = false := by simp; omega
  have d1' : decide (10 < sets.length) = false := by simp; omega
  have hrd := reads_of_weak HRR.out hlen hall
  obtain ⟨x1, x2, x3, L, er, hcr⟩ : ∃ a b c d e, countR s kind sets = (a, b, c, d, e) := ⟨_, _, _, _, _, rfl⟩
  have HCR := Lib.hid hcr; have HR := Lib.hid hrd
  clear hcr hrd hall
  go_enter Try.func3, Try.ntmps3
  go_wp2_with (first | (go_at_call 14; refine (large_any s 600 _ ((HRR.out.below (by (repeat (first | exact Below.refl _ _ | assumption | (refine Below.alloc ?_ (by first | omega | (simp; omega) | (simp; done)) _) | (refine Below.setCell ?_ (by first | omega | (simp; omega) | (simp; done)) _) | (refine Below.drew ?_) | (refine belowN ?_ _) | (refine Below.trans ?_ (Below.mono ‹Below _ _ _› (by first | omega | (simp; omega) | (simp; done)))))))).more (by simp))).mono ?_; rintro _ W1 ⟨rfl, hbx⟩; rw [hg]; have hw1 := bl2 (bla (Below.refl _ _)) hbx; have g1 : Blk W1 w.heap.size #[.int .i64 s.places, .int .i64 s.signs, .int .i64 s.kinds, .int .i64 s.answers, s.rv] 24 := (Blk.at_ rfl).below hbx (by first | omega | (simp; omega) | (simp; done)); (have s0 := g1.cell 0; have s1 := g1.cell 1; have s2 := g1.cell 2; have s3 := g1.cell 3; have s4 := g1.cell 4; simp at s0 s1 s2 s3 s4)) |
    (go_at_call 17; refine (own_any s _ ((HR.out.below hw1).more hw1.size) HN0.out (by omega)).mono ?_; rintro _ W2 ⟨s', rfl, hpl, hr', -, hbx⟩; have HPL := Lib.hid hpl; have HR' := Lib.hid hr'; clear hpl hr'; have hw2 := bl2 hw1 hbx; have g1 := g1.below hbx g1.lt; (have s0 := g1.cell 0; have s1 := g1.cell 1; have s2 := g1.cell 2; have s3 := g1.cell 3; have s4 := g1.cell 4; simp at s0 s1 s2 s3 s4)) |
    (go_at_call 18; refine (lsets_any A c sets _ (by omega) hn (oneCell_sets _) ((HAA.out.below hw2).more hw2.size)).mono ?_; rintro _ W3 ⟨v, rfl, hown, hb3⟩; obtain ⟨A', c', rfl, hA'⟩ := Sl.of_own hown; have HA' := Lib.hid hA'; clear hown hA'; have hw3 := bl2 hw2 hb3; have g1 := g1.below hb3 g1.lt; (have s0 := g1.cell 0; have s1 := g1.cell 1; have s2 := g1.cell 2; have s3 := g1.cell 3; have s4 := g1.cell 4; simp at s0 s1 s2 s3 s4)) |
    (go_at_call 16; refine (count_any s' kind sets A' c' _ ((HR'.out.below hb3).more hb3.size) (by omega) HO.out HA'.out).mono ?_; rw [count_cong HPL.out, HCR.out]; rintro _ W4 ⟨CA, cc, rfl, hCA, hb4⟩; refine Hid.out ?_))
  have hw4 := bl2 hw3 hb4
  have g1 := g1.below hb4 g1.lt
  (have s0 := g1.cell 0; have s1 := g1.cell 1; have s2 := g1.cell 2; have s3 := g1.cell 3; have s4 := g1.cell 4; simp at s0 s1 s2 s3 s4)
  have SC := Lib.hid hCA
  clear hCA HR' HPL HA'
  refine Lib.hid ?_
  refine gen_w (fun W => Below w.heap.size w W ∧ Blk W w.heap.size #[.int .i64 s.places, .int .i64 s.signs, .int .i64 s.kinds, .int .i64 s.answers, s.rv] 24 ∧ Hid (Sl intCell 1 W W.heap.size CA L)) ⟨hw4, g1, SC⟩ ?_
  clear SC s0 s1 s2 s3 s4 g1 hw4 hb4 hw3 hb3 hbx hw1 hw2 d1 d1'
  rintro W ⟨hw, g1, SC⟩
  have l0 := g1.lt
  (have s0 := g1.cell 0; have s1 := g1.cell 1; have s2 := g1.cell 2; have s3 := g1.cell 3; have s4 := g1.cell 4; simp at s0 s1 s2 s3 s4)
  have h2 := HCR.out; simp only [countR, hv] at h2; cases h2
  go_wp2_with (first | (go_at_call 19; refine (rschool_any s _ ((HR.out.below (bla hw)).more (bla hw).size)).mono ?_; rw [hv]; rintro _ Wx ⟨rfl, hbx⟩; refine Hid.out ?_))
  have hwx : Below w.heap.size w Wx := bl3 hw hbx
  have hxx : Below W.heap.size W Wx := bl3 (Below.refl _ _) hbx
  have g1 := g1.below hxx g1.lt
  have g3 := (Blk.new W _ _).below hbx (by simp)
  (have s0 := g1.cell 0; have s1 := g1.cell 1; have s2 := g1.cell 2; have s3 := g1.cell 3; have s4 := g1.cell 4; simp at s0 s1 s2 s3 s4)
  (have k0 := g3.cell 0; have k1 := g3.cell 1; have k2 := g3.cell 2; have k3 := g3.cell 3; simp at k0 k1 k2 k3)
  refine Lib.hid ?_
  go_wp2_with (go_at_call 15; refine (known_any _).mono ?_; rintro _ Wk ⟨rfl, hbk'⟩)
  go_ret
  exact ⟨rfl, bl2 hwx hbk'⟩
end Go.Proofs.Ytidlmbajpbbilaa

/- The law SchoolDiffers: the walk, all cases. -/
import Derived.Test.YtidlmbajpbbilaaLdC
namespace Go.Proofs.Ytidlmbajpbbilaa
open Go.RowKit

set_option maxRecDepth 100000 in
set_option maxHeartbeats 8000000 in
theorem lwdiffers_y (a b : Sch) (kind : Int) (w : World) (HAW : Hid (a.wreads w w.heap.size)) (HBW : Hid (b.wreads w w.heap.size)) (HA0 : Hid a.nil0) (HB0 : Hid b.nil0) (hga : largeB a 600 = false) (hgb : largeB b 600 = false) (hva : schB a = true) (hvb : schB b = true) (hp : (a.places == b.places) = true) (hs : (a.signs == b.signs) = true) (hk0 : 0 ≤ kind) (hka : kind < a.kinds) (hkb : kind < b.kinds) :
    Calls Try.prog 8 #[scv a a.rv, scv b b.rv, .int .i64 kind] w fun e w' => e = .returned (.bool true) ∧ Below w.heap.size w w' := by
  obtain ⟨n, hn⟩ : ∃ n, firstN (fun (k : Nat) => ansN a 0 kind (chartL a k) != ansN b 0 kind (chartL a k)) (chartsC a) = n := ⟨_, rfl⟩
  have HDF : Hid (∀ W, Below w.heap.size w W → Calls Try.prog 35 #[scv a a.rv, scv b b.rv, .int .i64 kind] W fun e w' => e = .returned (.int .i64 n) ∧ Below W.heap.size W w') := fun W hW => by
    obtain ⟨hlena, halla, -⟩ := not_large hga
    obtain ⟨hlenb, hallb, -⟩ := not_large hgb
    have ra := reads_of_weak HAW.out hlena halla
    have rb := reads_of_weak HBW.out hlenb hallb
    rw [← hn]
    exact rdiffer_any a b (valid_of ra.oks hva) (valid_of rb.oks hvb) (v3_of ra.oks hva) (v3_of rb.oks hvb) kind W ((ra.below hW).more hW.size) ((rb.below hW).more hW.size) (by simp only [beq_iff_eq] at hp; exact hp.symm) hk0 hka hkb
  have HD : Hid (differR a b kind = (n, 0)) := (by
    have e : inB kind 0 (a.kinds - 1) = true := inB_iff.2 ⟨hk0, by omega⟩
    have e2 : inB kind 0 (b.kinds - 1) = true := inB_iff.2 ⟨hk0, by omega⟩
    simp only [differR, hva, hvb, hp, hs, e, e2, Bool.and_self, if_true, hn] : differR a b kind = (n, 0))
  clear hn
  have q1 : (a.places != b.places) = false := by simpa using hp
  have q2 : (a.signs != b.signs) = false := by simpa using hs
  have q3 : decide (kind < 0) = false := by simpa using hk0
  have q4 : decide (a.kinds ≤ kind) = false := by simpa using hka
  have q5 : decide (b.kinds ≤ kind) = false := by simpa using hkb
  obtain ⟨hlena, halla, -⟩ := not_large hga
  obtain ⟨hlenb, hallb, -⟩ := not_large hgb
  have HRA := Lib.hid (reads_of_weak HAW.out hlena halla)
  have HRB := Lib.hid (reads_of_weak HBW.out hlenb hallb)
  clear halla hallb
  have HVA := Lib.hid hva
  go_enter Try.func8, Try.ntmps8
  go_wp2_with (first | (have _ := hw1; go_at_call 14; refine (large_any b 600 _ ((HBW.out.below hw1).more hw1.size)).mono ?_; rintro _ W2 ⟨rfl, hbx⟩; rw [hgb]; have hw2 := bl2 hw1 hbx; have g1 := g1.below hbx g1.lt; have g2 := g2.below hbx g2.lt; clear hbx; (have s0 := g1.cell 0; have s1 := g1.cell 1; have s2 := g1.cell 2; have s3 := g1.cell 3; have s4 := g1.cell 4; have t0 := g2.cell 0; have t1 := g2.cell 1; have t2 := g2.cell 2; have t3 := g2.cell 3; have t4 := g2.cell 4; simp at s0 s1 s2 s3 s4 t0 t1 t2 t3 t4)) |
    (go_at_call 14; refine (large_any a 600 _ ((HAW.out.below (by (repeat (first | exact Below.refl _ _ | assumption | (refine Below.alloc ?_ (by first | omega | (simp; omega) | (simp; done)) _) | (refine Below.setCell ?_ (by first | omega | (simp; omega) | (simp; done)) _) | (refine Below.drew ?_) | (refine belowN ?_ _) | (refine Below.trans ?_ (Below.mono ‹Below _ _ _› (by first | omega | (simp; omega) | (simp; done)))))))).more (by simp; omega))).mono ?_; rintro _ W1 ⟨rfl, hbx⟩; rw [hga]; have hw1 := bl2 (bla (bla (Below.refl _ _))) hbx; have g1 : Blk W1 w.heap.size #[.int .i64 a.places, .int .i64 a.signs, .int .i64 a.kinds, .int .i64 a.answers, a.rv] 24 := ((Blk.at_ rfl).alloc _).below hbx (by first | omega | (simp; omega) | (simp; done)); have g2 : Blk W1 (w.heap.size + 1) #[.int .i64 b.places, .int .i64 b.signs, .int .i64 b.kinds, .int .i64 b.answers, b.rv] 24 := (Blk.at_ (by simp)).below hbx (by first | omega | (simp; omega) | (simp; done)); clear hbx; (have s0 := g1.cell 0; have s1 := g1.cell 1; have s2 := g1.cell 2; have s3 := g1.cell 3; have s4 := g1.cell 4; have t0 := g2.cell 0; have t1 := g2.cell 1; have t2 := g2.cell 2; have t3 := g2.cell 3; have t4 := g2.cell 4; simp at s0 s1 s2 s3 s4 t0 t1 t2 t3 t4)))
  go_region_held (fun W' => W'.cell? ⟨w.heap.size, 0, none⟩ = some (.int .i64 a.places) ∧ W'.cell? ⟨w.heap.size, 1, none⟩ = some (.int .i64 a.signs) ∧ W'.cell? ⟨w.heap.size, 2, none⟩ = some (.int .i64 a.kinds) ∧ W'.cell? ⟨w.heap.size, 3, none⟩ = some (.int .i64 a.answers) ∧ W'.cell? ⟨w.heap.size, 4, none⟩ = some a.rv ∧ W'.cell? ⟨w.heap.size + 1, 0, none⟩ = some (.int .i64 b.places) ∧ W'.cell? ⟨w.heap.size + 1, 1, none⟩ = some (.int .i64 b.signs) ∧ W'.cell? ⟨w.heap.size + 1, 2, none⟩ = some (.int .i64 b.kinds) ∧ W'.cell? ⟨w.heap.size + 1, 3, none⟩ = some (.int .i64 b.answers) ∧ W'.cell? ⟨w.heap.size + 1, 4, none⟩ = some b.rv) (exact ⟨s0, s1, s2, s3, s4, t0, t1, t2, t3, t4⟩) (first | (have _ := hw3; go_at_call 17; refine (own_any b _ ((HRB.out.below hw3).more hw3.size) HB0.out (by omega)).mono ?_; rintro _ W4 ⟨b', rfl, hpl, hr', -, hby⟩; have HPB := Lib.hid hpl; have HB' := Lib.hid hr'; clear hpl hr'; have hw4 := bl2 hw3 hby; have g1 := g1.below hby g1.lt; have g2 := g2.below hby g2.lt; (have s0 := g1.cell 0; have s1 := g1.cell 1; have s2 := g1.cell 2; have s3 := g1.cell 3; have s4 := g1.cell 4; have t0 := g2.cell 0; have t1 := g2.cell 1; have t2 := g2.cell 2; have t3 := g2.cell 3; have t4 := g2.cell 4; simp at s0 s1 s2 s3 s4 t0 t1 t2 t3 t4)) |
    (go_at_call 17; refine (own_any a _ ((HRA.out.below (Below.drew hw2)).more (Below.drew hw2).size) HA0.out (by omega)).mono ?_; rintro _ W3 ⟨a', rfl, hpl, hr', -, hbx⟩; have HPA := Lib.hid hpl; have HA' := Lib.hid hr'; clear hpl hr'; have hw3 := bl2 (Below.drew hw2) hbx; have g1 := (show Blk W2.drew w.heap.size #[.int .i64 a.places, .int .i64 a.signs, .int .i64 a.kinds, .int .i64 a.answers, a.rv] 24 from g1).below hbx g1.lt; have g2 := (show Blk W2.drew (w.heap.size + 1) #[.int .i64 b.places, .int .i64 b.signs, .int .i64 b.kinds, .int .i64 b.answers, b.rv] 24 from g2).below hbx g2.lt; clear hbx; (have s0 := g1.cell 0; have s1 := g1.cell 1; have s2 := g1.cell 2; have s3 := g1.cell 3; have s4 := g1.cell 4; have t0 := g2.cell 0; have t1 := g2.cell 1; have t2 := g2.cell 2; have t3 := g2.cell 3; have t4 := g2.cell 4; simp at s0 s1 s2 s3 s4 t0 t1 t2 t3 t4)) |
    (go_at_call 34; refine (differ_any a' b' kind _ ((HA'.out.below hby).more hby.size) HB'.out).mono ?_; rw [differ_cong HPA.out HPB.out, HD.out]; rintro _ W5 ⟨rfl, hbx⟩; have hw := bl2 hw4 hbx; have g1 := g1.below hbx g1.lt; have g2 := g2.below hbx g2.lt; clear hbx; (have s0 := g1.cell 0; have s1 := g1.cell 1; have s2 := g1.cell 2; have s3 := g1.cell 3; have s4 := g1.cell 4; have t0 := g2.cell 0; have t1 := g2.cell 1; have t2 := g2.cell 2; have t3 := g2.cell 3; have t4 := g2.cell 4; simp at s0 s1 s2 s3 s4 t0 t1 t2 t3 t4)))
  all_goals (
    go_wp2_with (first | ((fail_if_success (have _ := hra)); go_at_call 19; refine (rschool_any a _ ((HRA.out.below hw).more hw.size)).mono ?_; rw [hva]; rintro _ Wx ⟨rfl, hbx⟩; have hra := trivial; have hw := bl2 hw hbx; have g1 := g1.below hbx g1.lt; have g2 := g2.below hbx g2.lt; clear hbx; (have s0 := g1.cell 0; have s1 := g1.cell 1; have s2 := g1.cell 2; have s3 := g1.cell 3; have s4 := g1.cell 4; have t0 := g2.cell 0; have t1 := g2.cell 1; have t2 := g2.cell 2; have t3 := g2.cell 3; have t4 := g2.cell 4; simp at s0 s1 s2 s3 s4 t0 t1 t2 t3 t4)) | (go_at_call 19; refine (rschool_any b _ ((HRB.out.below hw).more hw.size)).mono ?_; rw [hvb]; rintro _ Wx ⟨rfl, hbx⟩; have hw := bl2 hw hbx; have g1 := g1.below hbx g1.lt; have g2 := g2.below hbx g2.lt; clear hbx; (have s0 := g1.cell 0; have s1 := g1.cell 1; have s2 := g1.cell 2; have s3 := g1.cell 3; have s4 := g1.cell 4; have t0 := g2.cell 0; have t1 := g2.cell 1; have t2 := g2.cell 2; have t3 := g2.cell 3; have t4 := g2.cell 4; simp at s0 s1 s2 s3 s4 t0 t1 t2 t3 t4)) | (go_at_call 35; refine (HDF.out _ hw).mono ?_; rintro _ Wx ⟨rfl, hbx⟩; have hw := bl2 hw hbx; clear hbx) | (go_at_call 15; refine (known_any _).mono ?_; rintro _ Wk ⟨rfl, hbk'⟩))
    go_ret
    exact ⟨rfl, bl2 hw hbk'⟩)
end Go.Proofs.Ytidlmbajpbbilaa

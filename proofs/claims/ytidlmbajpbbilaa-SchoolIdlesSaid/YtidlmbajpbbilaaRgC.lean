/- The reference: Differ returns the first chart that two valid schools read differently, or -1. -/
import Derived.Test.YtidlmbajpbbilaaRgB
import Derived.Test.YtidlmbajpbbilaaLwA
namespace Go.Proofs.Ytidlmbajpbbilaa
open Go.RowKit

theorem chartsC_int' {s : Sch} (V : Valid s) : ((chartsC s : Nat) : Int) = chartsN s.signs s.places.toNat := by
  have := chartsN_bd s.signs V.signs.1 s.places.toNat
  unfold chartsC; omega
theorem RQ_len (s : Sch) (kind : Int) (ch : List Int) : (readP s kind ch).2.1.length ≤ 1000000 := bitsOf_len _
set_option maxRecDepth 100000 in
set_option maxHeartbeats 8000000 in
theorem rdiffer_any (a b : Sch) (Va : Valid a) (Vb : Valid b) (V3a : ∀ r ∈ a.rules, ∀ t ∈ r.when_, TestFit3 a.places.toNat t) (V3b : ∀ r ∈ b.rules, ∀ t ∈ r.when_, TestFit3 b.places.toNat t) (kind : Int) (w : World)
    (ha : a.reads w w.heap.size) (hb : b.reads w w.heap.size) (hp : b.places = a.places) (m0 : 0 ≤ kind) (m1 : kind < a.kinds) (m2 : kind < b.kinds) :
    Calls Try.prog 35 #[scv a a.rv, scv b b.rv, .int .i64 kind] w fun e w' => e = .returned (.int .i64 (firstN (fun (k : Nat) => ansN a 0 kind (chartL a k) != ansN b 0 kind (chartL a k)) (chartsC a))) ∧ Below w.heap.size w w' := by
  have HAA := Lib.hid ha; have HBB := Lib.hid hb; have HVa := Lib.hid Va; have HVb := Lib.hid Vb; have H3a := Lib.hid V3a; have H3b := Lib.hid V3b; have HP := Lib.hid hp
  have hsm := Va.small
  have hc4 := Va.charts
  have HCI := Lib.hid (chartsC_int' Va)
  obtain ⟨f, hf⟩ : ∃ f : Nat → Bool, f = fun (k : Nat) => ansN a 0 kind (chartL a k) != ansN b 0 kind (chartL a k) := ⟨_, rfl⟩
  rw [← hf]
  have HF := Lib.hid hf
  clear ha hb Va Vb V3a V3b hp hf
  go_enter Try.func35, Try.ntmps35
  go_wp2
  refine wp_world (fun W => Below w.heap.size w W ∧ w.heap.size + 1 < W.heap.size ∧ Blk W w.heap.size #[.int .i64 a.places, .int .i64 a.signs, .int .i64 a.kinds, .int .i64 a.answers, a.rv] 24 ∧ Blk W (w.heap.size + 1) #[.int .i64 b.places, .int .i64 b.signs, .int .i64 b.kinds, .int .i64 b.answers, b.rv] 24) ⟨by (repeat (first | exact Below.refl _ _ | assumption | (refine Below.alloc ?_ (by first | omega | (simp; omega) | (simp; done)) _) | (refine Below.setCell ?_ (by first | omega | (simp; omega) | (simp; done)) _) | (refine Below.drew ?_) | (refine belowN ?_ _) | (refine Below.trans ?_ (Below.mono ‹Below _ _ _› (by first | omega | (simp; omega) | (simp; done)))))), by simp, (Blk.at_ rfl).alloc _, Blk.at_ (by simp)⟩ ?_
  rintro w0 ⟨hb0, hz0, ga, gb⟩
  go_loopw [7] (fun i wr => ∃ k : Nat, k ≤ chartsC a ∧ i = .int .i64 k ∧ Below w0.heap.size w0 wr ∧ Hid (∀ j, j < k → f j = false)) (fun i _ => chartsC a - (intOf i).toNat)
  case atStart => exact ⟨0, by omega, rfl, Below.refl _ _, fun j hj => by omega⟩
  case round =>
    obtain ⟨k, hk, rfl, hb, HN⟩ := hrel
    have hsz := hb.size
    have hbr : Below w.heap.size w wr := hb0.trans (hb.mono (by omega))
    have g0 := ga.below hb (by omega)
    have g1 := gb.below hb (by omega)
    have q0 := g0.cell; have p0 := q0 0; have p1 := q0 1; have p2 := q0 2; have p3 := q0 3; have p4 := q0 4
    simp at p0 p1 p2 p3 p4
    have hcin := HCI.out
    by_cases hlt : k < chartsC a
    · have d : decide ((k : Int) < chartsN a.signs a.places.toNat) = true := by simp; omega
      have hk4 : (k : Int) ≤ 4096 := by omega
      have hln : Hid ((chartL a k).length = a.places.toNat) := (digits_len _ _ _ : (chartL a k).length = a.places.toNat)
      have hlnb : Hid ((chartL a k).length = b.places.toNat) := (by rw [HP.out]; exact hln.out : (chartL a k).length = b.places.toNat)
      clear hcin
      go_wp2_with (first | (go_at_call 40; refine (rcharts_any a a.rv hsm _).mono ?_; rintro _ Wa ⟨rfl, hba⟩; have q0 := (g0.below hba (by omega)).cell; have p0 := q0 0; have p1 := q0 1; have p2 := q0 2; have p3 := q0 3; have p4 := q0 4; simp at p0 p1 p2 p3 p4) |
        (go_at_call 41; refine (rchart_any a a.rv k hsm (by omega) hk4 _).mono ?_; rintro _ Wb ⟨v, rfl, hown, hbb⟩; refine Hid.out ?_))
      have hx : Below wr.heap.size wr Wb := bl2 hba hbb
      have hxw : Below w.heap.size w Wb := bl2 hbr hx
      obtain ⟨A', c', rfl, hA'⟩ := Sl.of_own hown
      have HA' := Lib.hid hA'
      have g0 := g0.below hx (by omega)
      have g1 := g1.below hx (by omega)
      have l0 := g0.lt
      have l1 := g1.lt
      have q0 := g0.cell; have p0 := q0 0; have p1 := q0 1; have p2 := q0 2; have p3 := q0 3; have p4 := q0 4
      have q1 := g1.cell; have r0 := q1 0; have r1 := q1 1; have r2 := q1 2; have r3 := q1 3; have r4 := q1 4
      simp at p0 p1 p2 p3 p4 r0 r1 r2 r3 r4
      clear hown hA' hba hbb d
      have hfk : Hid (f k = !(ansN a 0 kind (chartL a k) == ansN b 0 kind (chartL a k))) := (by rw [HF.out]; rfl : f k = _)
      refine Lib.hid ?_
      by_cases hans : (ansN a 0 kind (chartL a k) == ansN b 0 kind (chartL a k)) = true
      · have hno : Hid (f k = false) := (by rw [hfk.out, hans]; rfl : f k = false)
        have hdf : Hid (((readP a kind (chartL a k)).1 == (readP b kind (chartL a k)).1 && (readP a kind (chartL a k)).2.1 == (readP b kind (chartL a k)).2.1) = true) := (by rw [alike_ans, hans] : _ = true)
        clear hans
        go_wp2
        go_region_with (first | (have _ := hxc; go_at_call 44; refine (rread_any b HVb.out H3b.out (chartL a k) kind A' c' _ _ ((HBB.out.below hxc).more hxc.size) m0 m2 hlnb.out rfl (chartL_bd HVa.out k) ((HA'.out.below hyc).more hyc.size)).mono ?_; rintro _ Wd ⟨Y2, y2, Z2, z2, rfl, hY2, hZ2, hbd⟩; have HY2 := Lib.hid hY2; clear hY2 hZ2; have hxd := bl2 hxc hbd) |
          (go_at_call 44; refine (rread_any a HVa.out H3a.out (chartL a k) kind A' c' _ _ ((HAA.out.below (Below.drew hxw)).more (Below.drew hxw).size) m0 m1 hln.out rfl (chartL_bd HVa.out k) (HA'.out.below (Below.drew (Below.refl _ _)))).mono ?_; rintro _ Wc ⟨Y1, y1, Z1, z1, rfl, hY1, hZ1, hbc⟩; have HY1 := Lib.hid hY1; clear hY1 hZ1; have hxc := bl2 (Below.drew hxw) hbc; have hyc : Below Wb.heap.size Wb Wc := bl2 (Below.drew (Below.refl _ _)) hbc; have q0 := (g0.below hyc l0).cell; have p0 := q0 0; have p1 := q0 1; have p2 := q0 2; have p3 := q0 3; have p4 := q0 4; have q1 := (g1.below hyc l1).cell; have r0 := q1 0; have r1 := q1 1; have r2 := q1 2; have r3 := q1 3; have r4 := q1 4; simp at p0 p1 p2 p3 p4 r0 r1 r2 r3 r4) |
          (go_at_call 76; refine (ralike_any _ _ _ _ Y1 Y2 y1 y2 _ _ _ (RQ_len a kind (chartL a k)) ((HY1.out.below hbd).more hbd.size) HY2.out).mono ?_; rw [hdf.out]; rintro _ We ⟨rfl, hbe⟩; have hxe := bl2 hxd hbe))
        all_goals (
          go_wp2
          go_roundw
          case rel => exact ⟨k + 1, by omega, by go_num, bl2 hb (bl2 (bl2 (bl2 (Below.drew hx) hbc) hbd) hbe), upto_succ HN hno.out⟩
          case measure => simp [intOf]; omega)
      · simp only [Bool.not_eq_true] at hans
        have hyes : Hid (f k = true) := (by rw [hfk.out, hans]; rfl : f k = true)
        have hdf : Hid (((readP a kind (chartL a k)).1 == (readP b kind (chartL a k)).1 && (readP a kind (chartL a k)).2.1 == (readP b kind (chartL a k)).2.1) = false) := (by rw [alike_ans, hans] : _ = false)
        clear hans
        go_wp2
        go_region_with (first | (have _ := hxc; go_at_call 44; refine (rread_any b HVb.out H3b.out (chartL a k) kind A' c' _ _ ((HBB.out.below hxc).more hxc.size) m0 m2 hlnb.out rfl (chartL_bd HVa.out k) ((HA'.out.below hyc).more hyc.size)).mono ?_; rintro _ Wd ⟨Y2, y2, Z2, z2, rfl, hY2, hZ2, hbd⟩; have HY2 := Lib.hid hY2; clear hY2 hZ2; have hxd := bl2 hxc hbd) |
          (go_at_call 44; refine (rread_any a HVa.out H3a.out (chartL a k) kind A' c' _ _ ((HAA.out.below (Below.drew hxw)).more (Below.drew hxw).size) m0 m1 hln.out rfl (chartL_bd HVa.out k) (HA'.out.below (Below.drew (Below.refl _ _)))).mono ?_; rintro _ Wc ⟨Y1, y1, Z1, z1, rfl, hY1, hZ1, hbc⟩; have HY1 := Lib.hid hY1; clear hY1 hZ1; have hxc := bl2 (Below.drew hxw) hbc; have hyc : Below Wb.heap.size Wb Wc := bl2 (Below.drew (Below.refl _ _)) hbc; have q0 := (g0.below hyc l0).cell; have p0 := q0 0; have p1 := q0 1; have p2 := q0 2; have p3 := q0 3; have p4 := q0 4; have q1 := (g1.below hyc l1).cell; have r0 := q1 0; have r1 := q1 1; have r2 := q1 2; have r3 := q1 3; have r4 := q1 4; simp at p0 p1 p2 p3 p4 r0 r1 r2 r3 r4) |
          (go_at_call 76; refine (ralike_any _ _ _ _ Y1 Y2 y1 y2 _ _ _ (RQ_len a kind (chartL a k)) ((HY1.out.below hbd).more hbd.size) HY2.out).mono ?_; rw [hdf.out]; rintro _ We ⟨rfl, hbe⟩; have hxe := bl2 hxd hbe))
        all_goals (
          go_wp2
          go_ret
          exact ⟨ret_int (firstN_at hlt HN.out hyes.out).symm, hxe⟩)
    · obtain rfl : k = chartsC a := by omega
      have d : decide (((chartsC a : Nat) : Int) < chartsN a.signs a.places.toNat) = false := by simp; omega
      have hN0 : Hid (firstN f (chartsC a) = -1) := (firstN_none HN.out : firstN f (chartsC a) = -1)
      clear hcin
      go_wp2_with (go_at_call 40; refine (rcharts_any a a.rv hsm _).mono ?_; rintro _ Wa ⟨rfl, hba⟩)
      go_ret
      exact ⟨ret_int hN0.out.symm, bl2 hbr hba⟩
end Go.Proofs.Ytidlmbajpbbilaa

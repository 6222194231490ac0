/- Helpers of the laws: large. -/
import Derived.Test.YtidlmbajpbbilaaHlF
namespace Go.Proofs.Ytidlmbajpbbilaa
open Go.RowKit

/-- a school that lies in memory, however long its lists are -/
def Rul.wreads (w : World) (B : Nat) (r : Rul) : Prop := Sl Tst.cells 4 w B r.wa r.when_ ∧ Sl intCell 1 w B r.ua r.unless_ ∧ (∀ t ∈ r.when_, t.ok)
def Sch.wreads (w : World) (B : Nat) (s : Sch) : Prop := Sl Rul.cells 5 w B s.ra s.rules ∧ ∀ r ∈ s.rules, r.wreads w B
def rsB (r : Rul) : Bool := decide (r.when_.length ≤ 8) && decide (r.unless_.length ≤ 8)
def largeB (s : Sch) (N : Int) : Bool := !(decide (s.rules.length ≤ 35) && s.rules.all rsB && !(schB s && decide (N < chartsN s.signs s.places.toNat)))
theorem reads_of_weak {s : Sch} {w : World} {B : Nat} (h : s.wreads w B) (hl : s.rules.length ≤ 35) (ha : s.rules.all rsB = true) : s.reads w B := by
  refine ⟨h.1, by omega, fun r hr => ?_⟩
  have h1 := h.2 r hr
  have h2 := List.all_eq_true.1 ha r hr
  simp [rsB] at h2
  exact ⟨h1.1, h1.2.1, by omega, by omega, h1.2.2⟩
theorem small_of_sch {s : Sch} (h : schB s = true) : Small s := by
  simp only [schB, baseB, Bool.and_eq_true, decide_eq_true_eq, inB_iff] at h
  obtain ⟨⟨⟨⟨⟨⟨h1, h2⟩, h3⟩, h4⟩, h5⟩, h6⟩, h7⟩ := h
  exact ⟨h1.1, h1.2, h2.1, h2.2⟩
theorem all_take_succ {α : Type} {p : α → Bool} {l : List α} {j : Nat} (h : j < l.length) (ha : (l.take j).all p = true) (hp : p l[j] = true) : (l.take (j + 1)).all p = true := by
  rw [List.take_succ_eq_append_getElem h, List.all_append, ha]; simp [hp]
theorem all_get_false {α : Type} {p : α → Bool} {l : List α} {j : Nat} (h : j < l.length) (hp : p l[j] = false) : l.all p = false := by
  rw [List.all_eq_false]; exact ⟨l[j], List.getElem_mem h, by simp [hp]⟩

set_option maxRecDepth 100000 in
set_option maxHeartbeats 4000000 in
theorem large_any (s : Sch) (N : Int) (w : World) (hr : s.wreads w w.heap.size) : Calls Try.prog 14 #[scv s s.rv, .int .i64 N] w fun e w' => e = .returned (.bool (largeB s N)) ∧ Below w.heap.size w w' := by
  by_cases hlen : s.rules.length ≤ 35
  · have HRR := Lib.hid hr
    clear hr
    have d0 : decide (35 < (s.rules.length : Int)) = false := by simp; omega
    have d0' : decide (35 < s.rules.length) = false := by simp; omega
    go_enter Try.func14, Try.ntmps14
    go_wp2
    refine wp_world (fun W => Below w.heap.size w W ∧ w.heap.size < W.heap.size ∧ Blk W w.heap.size #[.int .i64 s.places, .int .i64 s.signs, .int .i64 s.kinds, .int .i64 s.answers, s.rv] 24) ⟨by (repeat (first | exact Below.refl _ _ | assumption | (refine Below.alloc ?_ (by first | omega | (simp; omega) | (simp; done)) _) | (refine Below.setCell ?_ (by first | omega | (simp; omega) | (simp; done)) _) | (refine Below.drew ?_) | (refine belowN ?_ _) | (refine Below.trans ?_ (Below.mono ‹Below _ _ _› (by first | omega | (simp; omega) | (simp; done)))))), by simp, Blk.at_ rfl⟩ ?_
    rintro w0 ⟨hb0, hz0, g0⟩
    have gc := g0.cell
    have s0 := gc 0; have s1 := gc 1; have s2 := gc 2; have s3 := gc 3; have s4 := gc 4
    simp at s0 s1 s2 s3 s4
    clear gc d0 d0'
    go_loop [5] (fun i => ∃ j : Nat, j ≤ s.rules.length ∧ i = .int .i64 j ∧ Hid ((s.rules.take j).all rsB = true)) (fun i => s.rules.length - (intOf i).toNat)
    case atStart => exact ⟨0, by omega, rfl, rfl⟩
    case round =>
      obtain ⟨j, hj, rfl, HA⟩ := hrel
      by_cases hlt : j < s.rules.length
      · obtain ⟨ab, ao, hra, hblk, hcell⟩ := HRR.out.1.at_ (k := j) (fun _ => rfl) hlt
        have s4' : w0.cell? ⟨w.heap.size, 4, none⟩ = some (.slice (some ⟨ab, ao, none⟩) s.rules.length s.rc) := by rw [s4, ← hra]
        obtain ⟨r, hre⟩ : ∃ t, s.rules[j] = t := ⟨_, rfl⟩
        have HG := fun h => Lib.hid (all_get_false (p := rsB) hlt h)
        have HS := fun h => Lib.hid (all_take_succ (p := rsB) hlt HA.out h)
        rw [hre] at hcell HG HS
        have c0 : w0.cell? ⟨ab, ao + j * 5, none⟩ = some (.slice r.wa r.when_.length r.wc) := (hb0.cell (p := ⟨ab, ao + j * 5, none⟩) hblk).trans (hcell 0 _ rfl)
        have c3 : w0.cell? ⟨ab, ao + j * 5 + 3, none⟩ = some (.slice r.ua r.unless_.length r.uc) := (hb0.cell (p := ⟨ab, ao + j * 5 + 3, none⟩) hblk).trans (hcell 3 _ rfl)
        clear s4 hcell hre hra
        by_cases h1 : r.when_.length ≤ 8
        · have e1 : decide (8 < (r.when_.length : Int)) = false := by simp; omega
          have e1' : decide (8 < r.when_.length) = false := by simp; omega
          by_cases h2 : r.unless_.length ≤ 8
          · have e2 : decide (8 < (r.unless_.length : Int)) = false := by simp; omega
            have e2' : decide (8 < r.unless_.length) = false := by simp; omega
            have hsu := HS (by simp [rsB, h1, h2])
            clear HG HS
            go_wp2
            exact ⟨⟨j + 1, by omega, by simp, hsu⟩, by simp [intOf]; omega⟩
          · have e2 : decide (8 < (r.unless_.length : Int)) = true := by simp; omega
            have e2' : decide (8 < r.unless_.length) = true := by simp; omega
            have hno := HG (by simp [rsB, h2])
            have HT : Hid (largeB s N = true) := (by simp [largeB, hno.out] : largeB s N = true)
            clear HG HS hno
            go_wp2
            go_ret
            exact ⟨ret_bool HT.out.symm, hb0⟩
        · have e1 : decide (8 < (r.when_.length : Int)) = true := by simp; omega
          have e1' : decide (8 < r.when_.length) = true := by simp; omega
          have hno := HG (by simp [rsB, h1])
          have HT : Hid (largeB s N = true) := (by simp [largeB, hno.out] : largeB s N = true)
          clear HG HS hno
          go_wp2
          go_ret
          exact ⟨ret_bool HT.out.symm, hb0⟩
      · obtain rfl : j = s.rules.length := by omega
        have hall : s.rules.all rsB = true := by have := HA.out; rwa [List.take_length] at this
        have hrd := reads_of_weak HRR.out hlen hall
        have HR := Lib.hid hrd
        have HAL := Lib.hid hall
        clear hrd hall HA HRR
        by_cases vs : schB s = true
        · have hs := small_of_sch vs
          have HT : Hid (largeB s N = decide (N < chartsN s.signs s.places.toNat)) := (by simp [largeB, hlen, HAL.out, vs] : largeB s N = decide (N < chartsN s.signs s.places.toNat))
          go_wp2_with (first | (go_at_call 19; refine (rschool_any s _ ((HR.out.below hb0).more hb0.size)).mono ?_; rintro e w1 ⟨rfl, hb1⟩; have hc1 := fun b o (h : b < w.heap.size + 1) => (bcell hb1).1 b o (by omega)) | (go_at_call 40; refine (rcharts_any s s.rv hs _).mono ?_; rintro e w2 ⟨rfl, hb2⟩))
          go_ret
          exact ⟨ret_bool HT.out.symm, bl2 (bl2 hb0 hb1) hb2⟩
        · simp only [Bool.not_eq_true] at vs
          have HT : Hid (largeB s N = false) := (by simp [largeB, hlen, HAL.out, vs] : largeB s N = false)
          go_wp2_with (first | (go_at_call 19; refine (rschool_any s _ ((HR.out.below hb0).more hb0.size)).mono ?_; rintro e w1 ⟨rfl, hb1⟩))
          go_ret
          exact ⟨ret_bool HT.out.symm, bl2 hb0 hb1⟩
  · have d0 : decide (35 < (s.rules.length : Int)) = true := by simp; omega
    have d0' : decide (35 < s.rules.length) = true := by simp; omega
    have HT : Hid (largeB s N = true) := (by simp [largeB, hlen] : largeB s N = true)
    clear hr
    go_enter Try.func14, Try.ntmps14
    go_wp2
    go_ret
    exact ⟨ret_bool HT.out.symm, by (repeat (first | exact Below.refl _ _ | assumption | (refine Below.alloc ?_ (by first | omega | (simp; omega) | (simp; done)) _) | (refine Below.setCell ?_ (by first | omega | (simp; omega) | (simp; done)) _) | (refine Below.drew ?_) | (refine belowN ?_ _) | (refine Below.trans ?_ (Below.mono ‹Below _ _ _› (by first | omega | (simp; omega) | (simp; done))))))⟩
end Go.Proofs.Ytidlmbajpbbilaa

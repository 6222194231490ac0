/- Helpers of the laws: known. -/
import Derived.Test.YtidlmbajpbbilaaZ19HlA
namespace Go.Proofs.Ytidlmbajpbbilaa
open Go.RowKit

abbrev clA (W : World) : World := (W.alloc (.cells #[.int .u64 7, .int .u64 3] 63)).alloc (.cells #[.int .u64 7, .int .u64 3] 63)
abbrev clS (W : World) : List Clm := [⟨0, some ⟨W.heap.size, 0, none⟩, 2, [7, 3], false, true⟩, ⟨0, some ⟨W.heap.size + 1, 0, none⟩, 2, [7, 3], true, false⟩]
abbrev clW (W : World) : World := (clA W).alloc (.cells (flat Clm.cells (clS W)).toArray 43)
theorem clms_small (W : World) : ClmsRead (clW W) (clW W).heap.size (some ⟨W.heap.size + 1 + 1, 0, none⟩) (clS W) := by
  refine ⟨sl_one (t := 43) (Blk.at_ (by simp)) rfl rfl, by simp, fun c hc => ?_⟩
  simp only [List.mem_cons, List.not_mem_nil, or_false] at hc
  rcases hc with rfl | rfl
  · exact ⟨sl_one (((Blk.new W _ 63).alloc _).alloc _) rfl rfl, by simp, by simp [IsU64]⟩
  · exact ⟨sl_one (t := 63) ((Blk.at_ (by simp)).alloc _) rfl rfl, by simp, by simp [IsU64]⟩
abbrev caS (W : World) : List Cas := [⟨.slice (some ⟨W.heap.size, 0, none⟩) 1 1, [⟨1, 0, 0, 3⟩], 0⟩, ⟨.slice (some ⟨W.heap.size + 1, 0, none⟩) 1 1, [⟨1, 0, 0, 4⟩], 1⟩]
abbrev caA (W : World) : World := (W.alloc (.cells #[.int .i64 1, .int .i64 0, .int .i64 0, .int .u64 3] 103)).alloc (.cells #[.int .i64 1, .int .i64 0, .int .i64 0, .int .u64 4] 103)
abbrev caW (W : World) : World := (caA W).alloc (.cells (flat Cas.cells (caS W)).toArray 54)
theorem cas_small (W : World) : CasRead (caW W) (caW W).heap.size (some ⟨W.heap.size + 1 + 1, 0, none⟩) (caS W) := by
  refine ⟨sl_one (t := 54) (Blk.at_ (by simp)) rfl rfl, by simp, fun c hc => ?_⟩
  simp only [List.mem_cons, List.not_mem_nil, or_false] at hc
  rcases hc with rfl | rfl
  · exact ⟨⟨_, _, rfl, sl_one (((Blk.new W _ 103).alloc _).alloc _) rfl rfl⟩, by simp, by simp [Tst.ok, Value.oneCell']⟩
  · exact ⟨⟨_, _, rfl, sl_one (t := 103) ((Blk.at_ (by simp)).alloc _) rfl rfl⟩, by simp, by simp [Tst.ok, Value.oneCell']⟩
theorem clW_below (W : World) : Below W.heap.size W (clW W) := by (repeat (first | exact Below.refl _ _ | assumption | (refine Below.alloc ?_ (by first | omega | (simp; omega) | (simp; done)) _) | (refine Below.setCell ?_ (by first | omega | (simp; omega) | (simp; done)) _) | (refine Below.drew ?_) | (refine belowN ?_ _) | (refine Below.trans ?_ (Below.mono ‹Below _ _ _› (by first | omega | (simp; omega) | (simp; done))))))
theorem caW_below (W : World) : Below W.heap.size W (caW W) := by (repeat (first | exact Below.refl _ _ | assumption | (refine Below.alloc ?_ (by first | omega | (simp; omega) | (simp; done)) _) | (refine Below.setCell ?_ (by first | omega | (simp; omega) | (simp; done)) _) | (refine Below.drew ?_) | (refine belowN ?_ _) | (refine Below.trans ?_ (Below.mono ‹Below _ _ _› (by first | omega | (simp; omega) | (simp; done))))))
theorem bl3 {w W1 W2 : World} {o : Obj} (h1 : Below w.heap.size w W1) (h2 : Below (W1.alloc o).heap.size (W1.alloc o) W2) : Below w.heap.size w W2 :=
  h1.trans ((((Below.refl W1.heap.size W1).alloc (Nat.le_refl _) o).trans (h2.mono (by simp))).mono h1.size)
theorem bl2 {w W1 W2 : World} (h1 : Below w.heap.size w W1) (h2 : Below W1.heap.size W1 W2) : Below w.heap.size w W2 := h1.trans (h2.mono h1.size)
theorem bla {w W1 : World} {o : Obj} (h1 : Below w.heap.size w W1) : Below w.heap.size w (W1.alloc o) := h1.alloc h1.size o
set_option maxRecDepth 100000 in
set_option maxHeartbeats 4000000 in
theorem known_any (w : World) : Calls Try.prog 15 #[] w fun e w' => e = .returned (.bool true) ∧ Below w.heap.size w w' := by
  go_enter Try.func15, Try.ntmps15
  go_wp2_with (first | (go_at_call 50; refine (small_any _).mono ?_; rintro _ W1 ⟨ra, rc, A0, c0, A1, c1, A2, c2, A3, c3, rfl, hr1, hb1⟩; have HR1 := Lib.hid hr1; clear hr1) | (go_at_call 33; refine (read_any (smS ra rc A0 c0 A1 c1 A2 c2 A3 c3) [0, 2] 0 (some ⟨W1.heap.size, 0, none⟩) 2 _ ((HR1.out.below (by (repeat (first | exact Below.refl _ _ | assumption | (refine Below.alloc ?_ (by first | omega | (simp; omega) | (simp; done)) _) | (refine Below.setCell ?_ (by first | omega | (simp; omega) | (simp; done)) _) | (refine Below.drew ?_) | (refine belowN ?_ _) | (refine Below.trans ?_ (Below.mono ‹Below _ _ _› (by first | omega | (simp; omega) | (simp; done)))))))).more (by simp)) (by simp) (sl_one (Blk.new W1 _ _) rfl rfl)).mono ?_; rintro _ W2 h; rw [small_read] at h; obtain ⟨B1, k1, B2, k2, rfl, hs1, hs2, hb2⟩ := h; refine Hid.out ?_))
  have hw2 : Below w.heap.size w W2 := bl3 hb1 hb2
  have HS1 := Lib.hid hs1; have HS2 := Lib.hid hs2
  clear hb1 hb2 HR1 hs1 hs2
  refine Lib.hid ?_
  go_wp2_with (first | (go_at_call 50; refine (small_any _).mono ?_; rintro _ W3 ⟨ra, rc, A0, c0, A1, c1, A2, c2, A3, c3, rfl, hr1, hb3⟩; have HR1 := Lib.hid hr1; clear hr1; have g1 := (Blk.new W2 #[.int .i64 3, .slice B1 2 k1, .slice B2 2 k2] 73).below hb3 (by simp)) | (go_at_call 16; refine (count_any (smS ra rc A0 c0 A1 c1 A2 c2 A3 c3) 0 [7, 7] (some ⟨W3.heap.size, 0, none⟩) 2 _ ((HR1.out.below (by (repeat (first | exact Below.refl _ _ | assumption | (refine Below.alloc ?_ (by first | omega | (simp; omega) | (simp; done)) _) | (refine Below.setCell ?_ (by first | omega | (simp; omega) | (simp; done)) _) | (refine Below.drew ?_) | (refine belowN ?_ _) | (refine Below.trans ?_ (Below.mono ‹Below _ _ _› (by first | omega | (simp; omega) | (simp; done)))))))).more (by simp)) (by simp) (by simp [IsU64]) (sl_one (Blk.new W3 _ _) rfl rfl)).mono ?_; rintro _ W4 h; rw [small_count] at h; obtain ⟨D1, l1, rfl, hs3, hb4⟩ := h; refine Hid.out ?_))
  have hw4 : Below w.heap.size w W4 := bl3 (bl3 hw2 hb3) hb4
  have hx4 : Below W2.heap.size W2 W4 := bl3 (bl3 (Below.refl _ _) hb3) hb4
  have g1' := (g1.alloc _).below hb4 (by have := g1.lt; simp; omega)
  have HS3 := Lib.hid hs3
  clear hb3 hb4 HR1 hs3 g1
  refine Lib.hid ?_
  go_wp2_with (first | (go_at_call 50; refine (small_any _).mono ?_; rintro _ W5 ⟨ra, rc, A0, c0, A1, c1, A2, c2, A3, c3, rfl, hr1, hb5⟩; have HR1 := Lib.hid hr1; clear hr1; have g3 := (Blk.new W4 #[.int .i64 9, .int .i64 2, .int .i64 2, .slice D1 3 l1] 30).below hb5 (by simp)) | (go_at_call 23; refine (keeps_any (smS ra rc A0 c0 A1 c1 A2 c2 A3 c3) (clS W5) (some ⟨W5.heap.size + 1 + 1, 0, none⟩) 2 (clW W5) ((HR1.out.below (clW_below W5)).more (by simp; omega)) (clms_small W5)).mono ?_; rintro _ W6 h; rw [small_keeps] at h; obtain ⟨rfl, hb6⟩ := h; refine Hid.out ?_))
  have hz5 := hb5.size
  have hx6 : Below W4.heap.size W4 W6 := bl2 (bl2 (bl3 (Below.refl _ _) hb5) (clW_below W5)) hb6
  have hw6 : Below w.heap.size w W6 := bl2 hw4 hx6
  have g1 := g1'.below hx6 g1'.lt
  have g3' := (g3.below (clW_below W5) g3.lt).below hb6 (by have := g3.lt; simp; omega)
  clear g1' g3 hb5 hb6 HR1 hz5
  refine Lib.hid ?_
  go_wp2_with (first | (go_at_call 50; refine (small_any _).mono ?_; rintro _ W7 ⟨ra, rc, A0, c0, A1, c1, A2, c2, A3, c3, rfl, hr1, hb7⟩; have HR1 := Lib.hid hr1; clear hr1) | (go_at_call 45; refine (idle_any (smS ra rc A0 c0 A1 c1 A2 c2 A3 c3) _ HR1.out).mono ?_; rintro _ W8 h; rw [small_idle] at h; obtain ⟨F1, m1, rfl, -, hb8⟩ := h; refine Hid.out ?_))
  have hx8 : Below W6.heap.size W6 W8 := bl2 hb7 hb8
  clear hb7 hb8 HR1
  refine Lib.hid ?_
  go_wp2_with (first | (go_at_call 50; refine (small_any _).mono ?_; rintro _ W9 ⟨ra, rc, A0, c0, A1, c1, A2, c2, A3, c3, rfl, hr1, hb9⟩; have HR1 := Lib.hid hr1; clear hr1) | (go_at_call 27; refine (gloss_any (smS ra rc A0 c0 A1 c1 A2 c2 A3 c3) 0 (caS W9) (some ⟨W9.heap.size + 1 + 1, 0, none⟩) 2 (caW W9) (by simp) (by simp) ((HR1.out.below (caW_below W9)).more (by simp; omega)) (cas_small W9)).mono ?_; rintro _ W10 h; rw [small_gloss] at h; obtain ⟨rfl, hb10⟩ := h; refine Hid.out ?_))
  have hx10 : Below W6.heap.size W6 W10 := bl2 hx8 (bl2 (bl2 hb9 (caW_below W9)) hb10)
  have hw10 := bl2 hw6 hx10
  have h1 := g1.below hx10 g1.lt
  have h3 := g3'.below hx10 g3'.lt
  have hy2 := bl2 (bl2 hx4 hx6) hx10
  have hy4 := bl2 hx6 hx10
  have hs1 := (HS1.out.below hy2).more hy2.size
  have hs2 := (HS2.out.below hy2).more hy2.size
  have hs3 := (HS3.out.below hy4).more hy4.size
  have HS1 := Lib.hid hs1; have HS2 := Lib.hid hs2; have HS3 := Lib.hid hs3
  clear hb9 hb10 HR1 hx8 hx6 hx4 hw2 hw4 hw6 g1 g3' hs1 hs2 hs3 hx10 hy2 hy4
  have c0 := h1.cell 0; have c1 := h1.cell 1; have c2 := h1.cell 2
  simp at c0 c1 c2
  refine Lib.hid ?_
  go_wp2_with (go_at_call 22; refine (lsame_any B1 (some ⟨W10.heap.size, 0, none⟩) k1 2 [0, 2] [0, 2] _ (by simp) ((HS1.out.below (by (repeat (first | exact Below.refl _ _ | assumption | (refine Below.alloc ?_ (by first | omega | (simp; omega) | (simp; done)) _) | (refine Below.setCell ?_ (by first | omega | (simp; omega) | (simp; done)) _) | (refine Below.drew ?_) | (refine belowN ?_ _) | (refine Below.trans ?_ (Below.mono ‹Below _ _ _› (by first | omega | (simp; omega) | (simp; done)))))))).more (by simp)) (sl_one (Blk.new W10 _ _) rfl rfl)).mono ?_; rintro _ W11 ⟨rfl, hb11⟩; refine Hid.out ?_)
  have hx11 : Below W10.heap.size W10 W11 := bl3 (Below.refl _ _) hb11
  have g1 := h1.below hx11 h1.lt
  have c0 := g1.cell 0; have c1 := g1.cell 1; have c2 := g1.cell 2
  simp at c0 c1 c2
  refine Lib.hid ?_
  go_wp2_with (go_at_call 22; refine (lsame_any B2 (some ⟨W11.heap.size, 0, none⟩) k2 2 [0, 2] [0, 2] _ (by simp) ((HS2.out.below (hx11.trans (((Below.refl _ _).alloc (Nat.le_refl _) _).mono hx11.size))).more (by have := hx11.size; simp; omega)) (sl_one (Blk.new W11 _ _) rfl rfl)).mono ?_; rintro _ W12 ⟨rfl, hb12⟩; refine Hid.out ?_)
  have hx12 : Below W10.heap.size W10 W12 := bl3 hx11 hb12
  have g3 := h3.below hx12 h3.lt
  have d0 := g3.cell 0; have d1 := g3.cell 1; have d2 := g3.cell 2; have d3 := g3.cell 3
  simp at d0 d1 d2 d3
  refine Lib.hid ?_
  go_wp2_with (go_at_call 22; refine (lsame_any D1 (some ⟨W12.heap.size, 0, none⟩) l1 3 [2, 3, 0] [2, 3, 0] _ (by simp) ((HS3.out.below (hx12.trans (((Below.refl _ _).alloc (Nat.le_refl _) _).mono hx12.size))).more (by have := hx12.size; simp; omega)) (sl_one (Blk.new W12 _ _) rfl rfl)).mono ?_; rintro _ W13 ⟨rfl, hb13⟩; refine Hid.out ?_)
  have hx13 := bl2 hw10 (bl3 hx12 hb13)
  refine Lib.hid ?_
  go_wp2
  go_ret
  exact ⟨rfl, hx13⟩
end Go.Proofs.Ytidlmbajpbbilaa
namespace Go.Proofs.Ytidlmbajpbbilaa
open Go.RowKit

/-- a school that lies in memory, however long its lists are -/
def Rul.wreads (w : World) (B : Nat) (r : Rul) : Prop := Sl Tst.cells 4 w B r.wa r.when_ ∧ Sl intCell 1 w B r.ua r.unless_ ∧ (∀ t ∈ r.when_, t.ok)
def Sch.wreads (w : World) (B : Nat) (s : Sch) : Prop := Sl Rul.cells 5 w B s.ra s.rules ∧ ∀ r ∈ s.rules, r.wreads w B
def rsB (r : Rul) : Bool := decide (r.when_.length ≤ 8) && decide (r.unless_.length ≤ 8)
def largeB (s : Sch) (N : Int) : Bool := !(decide (s.rules.length ≤ 35) && s.rules.all rsB && !(schB s && decide (N < chartsN s.signs s.places.toNat)))
theorem reads_of_weak {s : Sch} {w : World} {B : Nat} (h : s.wreads w B) (hl : s.rules.length ≤ 35) (ha : s.rules.all rsB = true) : s.reads w B := by
  refine ⟨h.1, by omega, fun r hr => ?_⟩
  have h1 := h.2 r hr
  have h2 := List.all_eq_true.1 ha r hr
  simp [rsB] at h2
  exact ⟨h1.1, h1.2.1, by omega, by omega, h1.2.2⟩
theorem small_of_sch {s : Sch} (h : schB s = true) : Small s := by
  simp only [schB, baseB, Bool.and_eq_true, decide_eq_true_eq, inB_iff] at h
  obtain ⟨⟨⟨⟨⟨⟨h1, h2⟩, h3⟩, h4⟩, h5⟩, h6⟩, h7⟩ := h
  exact ⟨h1.1, h1.2, h2.1, h2.2⟩
theorem all_take_succ {α : Type} {p : α → Bool} {l : List α} {j : Nat} (h : j < l.length) (ha : (l.take j).all p = true) (hp : p l[j] = true) : (l.take (j + 1)).all p = true := by
  rw [List.take_succ_eq_append_getElem h, List.all_append, ha]; simp [hp]
theorem all_get_false {α : Type} {p : α → Bool} {l : List α} {j : Nat} (h : j < l.length) (hp : p l[j] = false) : l.all p = false := by
  rw [List.all_eq_false]; exact ⟨l[j], List.getElem_mem h, by simp [hp]⟩

set_option maxRecDepth 100000 in
set_option maxHeartbeats 4000000 in
theorem large_any (s : Sch) (N : Int) (w : World) (hr : s.wreads w w.heap.size) : Calls Try.prog 14 #[scv s s.rv, .int .i64 N] w fun e w' => e = .returned (.bool (largeB s N)) ∧ Below w.heap.size w w' := by
  by_cases hlen : s.rules.length ≤ 35
  · have HRR := Lib.hid hr
    clear hr
    have d0 : decide (35 < (s.rules.length : Int)) = false := by simp; omega
    have d0' : decide (35 < s.rules.length) = false := by simp; omega
    go_enter Try.func14, Try.ntmps14
    go_wp2
    refine wp_world (fun W => Below w.heap.size w W ∧ w.heap.size < W.heap.size ∧ Blk W w.heap.size #[.int .i64 s.places, .int .i64 s.signs, .int .i64 s.kinds, .int .i64 s.answers, s.rv] 24) ⟨by (repeat (first | exact Below.refl _ _ | assumption | (refine Below.alloc ?_ (by first | omega | (simp; omega) | (simp; done)) _) | (refine Below.setCell ?_ (by first | omega | (simp; omega) | (simp; done)) _) | (refine Below.drew ?_) | (refine belowN ?_ _) | (refine Below.trans ?_ (Below.mono ‹Below _ _ _› (by first | omega | (simp; omega) | (simp; done)))))), by simp, Blk.at_ rfl⟩ ?_
    rintro w0 ⟨hb0, hz0, g0⟩
    have gc := g0.cell
    have s0 := gc 0; have s1 := gc 1; have s2 := gc 2; have s3 := gc 3; have s4 := gc 4
    simp at s0 s1 s2 s3 s4
    clear gc d0 d0'
    go_loop [5] (fun i => ∃ j : Nat, j ≤ s.rules.length ∧ i = .int .i64 j ∧ Hid ((s.rules.take j).all rsB = true)) (fun i => s.rules.length - (intOf i).toNat)
    case atStart => exact ⟨0, by omega, rfl, rfl⟩
    case round =>
      obtain ⟨j, hj, rfl, HA⟩ := hrel
      by_cases hlt : j < s.rules.length
      · obtain ⟨ab, ao, hra, hblk, hcell⟩ := HRR.out.1.at_ (k := j) (fun _ => rfl) hlt
        have s4' : w0.cell? ⟨w.heap.size, 4, none⟩ = some (.slice (some ⟨ab, ao, none⟩) s.rules.length s.rc) := by rw [s4, ← hra]
        obtain ⟨r, hre⟩ : ∃ t, s.rules[j] = t := ⟨_, rfl⟩
        have HG := fun h => Lib.hid (all_get_false (p := rsB) hlt h)
        have HS := fun h => Lib.hid (all_take_succ (p := rsB) hlt HA.out h)
        rw [hre] at hcell HG HS
        have c0 : w0.cell? ⟨ab, ao + j * 5, none⟩ = some (.slice r.wa r.when_.length r.wc) := (hb0.cell (p := ⟨ab, ao + j * 5, none⟩) hblk).trans (hcell 0 _ rfl)
        have c3 : w0.cell? ⟨ab, ao + j * 5 + 3, none⟩ = some (.slice r.ua r.unless_.length r.uc) := (hb0.cell (p := ⟨ab, ao + j * 5 + 3, none⟩) hblk).trans (hcell 3 _ rfl)
        clear s4 hcell hre hra
        by_cases h1 : r.when_.length ≤ 8
        · have e1 : decide (8 < (r.when_.length : Int)) = false := by simp; omega
          have e1' : decide (8 < r.when_.length) = false := by simp; omega
          by_cases h2 : r.unless_.length ≤ 8
          · have e2 : decide (8 < (r.unless_.length : Int)) = false := by simp; omega
            have e2' : decide (8 < r.unless_.length) = false := by simp; omega
            have hsu := HS (by simp [rsB, h1, h2])
            clear HG HS
            go_wp2
            exact ⟨⟨j + 1, by omega, by simp, hsu⟩, by simp [intOf]; omega⟩
          · have e2 : decide (8 < (r.unless_.length : Int)) = true := by simp; omega
            have e2' : decide (8 < r.unless_.length) = true := by simp; omega
            have hno := HG (by simp [rsB, h2])
            have HT : Hid (largeB s N = true) := (by simp [largeB, hno.out] : largeB s N = true)
            clear HG HS hno
            go_wp2
            go_ret
            exact ⟨ret_bool HT.out.symm, hb0⟩
        · have e1 : decide (8 < (r.when_.length : Int)) = true := by simp; omega
          have e1' : decide (8 < r.when_.length) = true := by simp; omega
          have hno := HG (by simp [rsB, h1])
          have HT : Hid (largeB s N = true) := (by simp [largeB, hno.out] : largeB s N = true)
          clear HG HS hno
          go_wp2
          go_ret
          exact ⟨ret_bool HT.out.symm, hb0⟩
      · obtain rfl : j = s.rules.length := by omega
        have hall : s.rules.all rsB = true := by have := HA.out; rwa [List.take_length] at this
        have hrd := reads_of_weak HRR.out hlen hall
        have HR := Lib.hid hrd
        have HAL := Lib.hid hall
        clear hrd hall HA HRR
        by_cases vs : schB s = true
        · have hs := small_of_sch vs
          have HT : Hid (largeB s N = decide (N < chartsN s.signs s.places.toNat)) := (by simp [largeB, hlen, HAL.out, vs] : largeB s N = decide (N < chartsN s.signs s.places.toNat))
          go_wp2_with (first | (go_at_call 19; refine (rschool_any s _ ((HR.out.below hb0).more hb0.size)).mono ?_; rintro e w1 ⟨rfl, hb1⟩; have hc1 := fun b o (h : b < w.heap.size + 1) => (bcell hb1).1 b o (by omega)) | (go_at_call 40; refine (rcharts_any s s.rv hs _).mono ?_; rintro e w2 ⟨rfl, hb2⟩))
          go_ret
          exact ⟨ret_bool HT.out.symm, bl2 (bl2 hb0 hb1) hb2⟩
        · simp only [Bool.not_eq_true] at vs
          have HT : Hid (largeB s N = false) := (by simp [largeB, hlen, HAL.out, vs] : largeB s N = false)
          go_wp2_with (first | (go_at_call 19; refine (rschool_any s _ ((HR.out.below hb0).more hb0.size)).mono ?_; rintro e w1 ⟨rfl, hb1⟩))
          go_ret
          exact ⟨ret_bool HT.out.symm, bl2 hb0 hb1⟩
  · have d0 : decide (35 < (s.rules.length : Int)) = true := by simp; omega
    have d0' : decide (35 < s.rules.length) = true := by simp; omega
    have HT : Hid (largeB s N = true) := (by simp [largeB, hlen] : largeB s N = true)
    clear hr
    go_enter Try.func14, Try.ntmps14
    go_wp2
    go_ret
    exact ⟨ret_bool HT.out.symm, by (repeat (first | exact Below.refl _ _ | assumption | (refine Below.alloc ?_ (by first | omega | (simp; omega) | (simp; done)) _) | (refine Below.setCell ?_ (by first | omega | (simp; omega) | (simp; done)) _) | (refine Below.drew ?_) | (refine belowN ?_ _) | (refine Below.trans ?_ (Below.mono ‹Below _ _ _› (by first | omega | (simp; omega) | (simp; done))))))⟩
end Go.Proofs.Ytidlmbajpbbilaa
namespace Go.Proofs.Ytidlmbajpbbilaa
open Go.RowKit

/-- a claim without addresses -/
def Clm.pl (c : Clm) : Clm := { c with sa := none, sc := 0 }
def Clm.nil0 (c : Clm) : Prop := c.sa = none → c.sc = 0
theorem claimsE_pl (s : Sch) : ∀ l : List Clm, claimsE s.pl (l.map Clm.pl) = claimsE s l
  | [] => rfl
  | c :: l => by simp only [List.map_cons, claimsE, claimsE_pl s l]; rfl
theorem badC_pl (s : Sch) (c : Clm) : badC s.pl c.pl = badC s c := by
  funext k
  simp only [badC, kdAt, ansL, ansOf_pl]; rfl
theorem keepsI_pl (s : Sch) : ∀ (l : List Clm) (i : Nat), keepsI s.pl (l.map Clm.pl) i = keepsI s l i
  | [], _ => rfl
  | c :: l, i => by simp only [List.map_cons, keepsI, keepsI_pl s l, badC_pl]; rfl
theorem keepsR_pl (s : Sch) (cs : List Clm) : keepsR s.pl (cs.map Clm.pl) = keepsR s cs := by
  simp only [keepsR, schB_pl, List.length_map, claimsE_pl, keepsI_pl]
theorem keeps_cong {s s' : Sch} {cs cs' : List Clm} (h : s'.pl = s.pl) (h' : cs'.map Clm.pl = cs.map Clm.pl) : keepsR s' cs' = keepsR s cs := by rw [← keepsR_pl s', h, h', keepsR_pl]
/-- claims with lists of their own are returned -/
def RetOwnC (cs : List Clm) (w : World) (e : Ending) (w' : World) : Prop := ∃ (A : Option Addr) (c : Nat) (cs' : List Clm), e = .returned (.slice A cs'.length c) ∧ cs'.map Clm.pl = cs.map Clm.pl ∧ ClmsRead w' w'.heap.size A cs' ∧ Below w.heap.size w w'
theorem infoClaim : (Try.prog.info? 43).map (fun i => (i.zero, i.size, i.bytes)) = some (some (.agg #[.int .i64 0, .slice none 0 0, .bool false, .bool false]), 4, 40) := by kernel_rfl
theorem uClaims : Try.prog.underlying 41 = some (.slice 43) := by kernel_rfl
/-- a claim whose list is a row -/
structure RowC (W : World) (q : Clm) : Prop where
  s_ : W.ownsRow 0 63 1 (.slice q.sa q.sets.length q.sc) q.sets.length (flat setCell1 q.sets)
  l1 : q.sets.length ≤ 1000000
  ok : ∀ x ∈ q.sets, IsU64 x
theorem RowC.grown {W W' : World} {r : Clm} (h : RowC W r) {row : Option Nat} (hg : W.grownBy W' row) (hr : ∀ (v : Value), (∃ s n xs, W.ownsRow 0 63 s v n xs) → v.ownBlock = none ∨ v.ownBlock ≠ row) : RowC W' r :=
  ⟨h.s_.kept hg (hr _ ⟨_, _, _, h.s_⟩), h.l1, h.ok⟩
theorem RowC.below {W W' : World} {r : Clm} (h : RowC W r) (hb : Below W.heap.size W W') : RowC W' r :=
  h.grown (grown_of_below hb) fun v _ => by cases hv : v.ownBlock <;> simp
theorem RowC.reads {W : World} {r : Clm} (h : RowC W r) : r.reads W W.heap.size := by
  obtain ⟨A, c, hv, hs⟩ := Sl.of_own h.s_
  cases hv
  exact ⟨hs, h.l1, h.ok⟩
theorem oneCell_sets (l : List Int) : ∀ u ∈ flat setCell1 l, u.oneCell' = true := fun u hu => by
  obtain ⟨t, ht, hu⟩ := List.mem_flatMap.1 hu
  simp only [List.mem_cons, List.not_mem_nil, or_false] at hu
  subst hu; simp [Value.oneCell']

set_option maxRecDepth 100000 in
set_option maxHeartbeats 4000000 in
theorem claims_any (cs : List Clm) (A : Option Addr) (c : Nat) (w : World) (hr : ClmsRead w w.heap.size A cs) (h0 : ∀ q ∈ cs, q.nil0) (hl : cs.length ≤ 1000) : Calls Try.prog 24 #[.slice A cs.length c] w (RetOwnC cs w) := by
  obtain ⟨i1, hi1, iy0, iy1, iy2⟩ := info_parts infoClaim
  have HRR := Lib.hid hr; have HN0 := Lib.hid h0
  clear hr h0
  go_enter Try.func24, Try.ntmps24
  go_wp2
  refine wp_world (fun W => Below w.heap.size w W ∧ w.heap.size < W.heap.size ∧ W.ownsRow w.heap.size 43 4 (.slice (some ⟨w.heap.size, 0, none⟩) 0 0) 0 []) ?_ ?_
  · refine ⟨by (repeat (first | exact Below.refl _ _ | assumption | (refine Below.alloc ?_ (by first | omega | (simp; omega) | (simp; done)) _) | (refine Below.setCell ?_ (by first | omega | (simp; omega) | (simp; done)) _) | (refine Below.drew ?_) | (refine belowN ?_ _) | (refine Below.trans ?_ (Below.mono ‹Below _ _ _› (by first | omega | (simp; omega) | (simp; done)))))), by simp, ?_⟩
    have := World.ownsRow_made (e := 43) (size := 4) w #[] 0 (base := w.heap.size) (by simp) (by simp) (by simp)
    simpa using this
  rintro w0 ⟨hbw, hz0, hown0⟩
  have HO0 := Lib.hid hown0
  go_loopw [3, 4] (fun v i wr => ∃ (j : Nat) (l : List Clm), j ≤ cs.length ∧ i = .int .i64 j ∧ Hid (l.length = j) ∧ Hid (wr.ownsRow w.heap.size 43 4 v l.length (flat Clm.cells l)) ∧ Hid (∀ r ∈ l, RowC wr r) ∧ Hid (l.map Clm.pl = (cs.take j).map Clm.pl) ∧
    Hid (Below w.heap.size w wr) ∧ w.heap.size < wr.heap.size) (fun _ i _ => cs.length - (intOf i).toNat)
  case atStart => exact ⟨0, [], by omega, rfl, rfl, HO0, (fun r hr => by cases hr), rfl, hbw, hz0⟩
  case round =>
    obtain ⟨j, l, hj, rfl, hlj, hown, hrows, hpl, hbr, hzr⟩ := hrel
    by_cases hlt : j < cs.length
    · have hrr := HRR.out.below hbr.out
      obtain ⟨ab, ao, rfl, hblk, hcell⟩ := hrr.1.at_ (k := j) (fun _ => rfl) hlt
      have hrl := (hrr.2.2 _ (List.getElem_mem hlt)).more hbr.out.size
      have hn0 := HN0.out _ (List.getElem_mem hlt)
      have HTK := Lib.hid (List.take_succ_eq_append_getElem hlt)
      obtain ⟨r, hre⟩ : ∃ t, cs[j] = t := ⟨_, rfl⟩
      rw [hre] at hcell hrl hn0 HTK
      have c0 : wr.cell? ⟨ab, ao + j * 4, none⟩ = some (.int .i64 r.kind) := hcell 0 _ rfl
      have c1 : wr.cell? ⟨ab, ao + j * 4 + 1, none⟩ = some (.slice r.sa r.sets.length r.sc) := hcell 1 _ rfl
      have c2 : wr.cell? ⟨ab, ao + j * 4 + 2, none⟩ = some (.bool r.total) := hcell 2 _ rfl
      have c3 : wr.cell? ⟨ab, ao + j * 4 + 3, none⟩ = some (.bool r.clear) := hcell 3 _ rfl
      obtain ⟨hw1, hl1, hok⟩ := hrl
      have HT := fun W (hW : Below wr.heap.size wr W) => Lib.hid (lsets_any r.sa r.sc r.sets W hl1 hn0 (oneCell_sets _) ((hw1.below hW).more hW.size))
      have HOK := Lib.hid hok
      clear hcell hre hrr hw1 hok hn0
      go_wp2_with (go_at_call 18; refine ((HT _ (by (repeat (first | exact Below.refl _ _ | assumption | (refine Below.alloc ?_ (by first | omega | (simp; omega) | (simp; done)) _) | (refine Below.setCell ?_ (by first | omega | (simp; omega) | (simp; done)) _) | (refine Below.drew ?_) | (refine belowN ?_ _) | (refine Below.trans ?_ (Below.mono ‹Below _ _ _› (by first | omega | (simp; omega) | (simp; done)))))))).out).mono ?_; rintro e w1 ⟨v1, rfl, hown1, hb1⟩; refine Hid.out ?_)
      obtain ⟨A1, k1, hv1⟩ : ∃ A c, v1 = .slice A r.sets.length c := (by obtain ⟨A, c, h, _⟩ := Sl.of_own hown1; exact ⟨A, c, h⟩)
      subst hv1
      refine gen_w (fun W => Blk W wr.heap.size #[.int .i64 r.kind, .slice r.sa r.sets.length r.sc, .bool r.total, .bool r.clear] 43 ∧ Below wr.heap.size wr W ∧ W.ownsRow (wr.heap.size + 1) 63 1 (.slice A1 r.sets.length k1) r.sets.length (flat setCell1 r.sets) ∧ wr.heap.size < W.heap.size) ?_ ?_
      · refine ⟨(Blk.new wr _ _).below hb1 (by simp), ((Below.refl _ _).alloc (Nat.le_refl _) _).trans (hb1.mono (by simp)), by simpa using hown1, by have := hb1.size; simp at this; omega⟩
      clear hb1 hown1
      rintro W1 ⟨g4, hb4, p1, hz4⟩
      have l0 := g4.cell 0
      have l1 := g4.cell 1
      have l2 := g4.cell 2
      have l3 := g4.cell 3
      have f1 := g4.free 1
      simp at l0 l1 l2 l3
      obtain ⟨W2, hW2⟩ : ∃ W, W = W1.setCell ⟨wr.heap.size, 1, none⟩ (.slice A1 r.sets.length k1) := ⟨_, rfl⟩
      have hb5 : Below wr.heap.size wr W2 := by rw [hW2]; exact hb4.setCell (Nat.le_refl _) _
      have p2 : W2.ownsRow 0 63 1 (.slice A1 r.sets.length k1) r.sets.length (flat setCell1 r.sets) := by rw [hW2]; exact own_mono (own_put p1 (by simp) _ _)
      have hz5 : W2.heap.size = W1.heap.size := by rw [hW2]; simp
      have HC5 : Hid (∀ (i : Nat) (u : Value), [Value.int .i64 r.kind, .slice A1 r.sets.length k1, .bool r.total, .bool r.clear][i]? = some u → (W2.alloc (.cells #[.int .i64 r.kind, .slice A1 r.sets.length k1, .bool r.total, .bool r.clear] 43)).cell? ((⟨W1.heap.size, 0, none⟩ : Addr).add i) = some u) := (fun i u hu => by
        rw [← hz5, Go.WideShapes.add_plain, Nat.zero_add, (Blk.new W2 _ _).cell i, ← hu]; simp)
      have how := hown.out.kept (grown_of_below hb5) (by cases hv : u3.ownBlock <;> simp)
      have HOW := Lib.hid how
      have HW2 := Lib.hid hW2
      clear hW2 how p1
      refine Lib.hid ?_
      go_wp2_with (at_builtin; rw [← HW2.out]; refine wpList_append_own _ rfl _ _ 41 rfl w.heap.size 43 i1 (.agg #[.int .i64 0, .slice none 0 0, .bool false, .bool false]) 4 40 uClaims hi1 iy0 iy1 iy2 rfl (by decide) _ _ _ rfl (HOW.out.alloc _) ⟨W1.heap.size, 0, none⟩ 1 1 [.int .i64 r.kind, .slice A1 r.sets.length k1, .bool r.total, .bool r.clear] rfl rfl HC5.out (by simp [Value.oneCell']) (by have := hlj.out; unfold maxLen; omega) (by have := hlj.out; omega) (by have := hlj.out; simp; omega) ?_; intro v' w5 hown5 hgrow _)
      have hol := hlj.out
      have hb45 : Below w.heap.size wr w5 := ((hb5.mono (by omega)).alloc (by omega) _).grown hgrow (by simp; omega) (fun g hg => own_ge hown.out hg)
      have hbz5 : W2.heap.size < w5.heap.size := by have := hgrow.size; simp at this; omega
      go_wp2
      refine ⟨⟨j + 1, l ++ [⟨r.kind, A1, k1, r.sets, r.total, r.clear⟩], by omega, by simp, by show _ = _; simp [hol], by show World.ownsRow _ _ _ _ _ _ _; simpa [flat, Clm.cells] using hown5, ?_, ?_, hbr.out.trans (hb45.mono (by omega)), by omega⟩, by simp [intOf]; omega⟩
      · show ∀ r ∈ _, _
        have hA : ∀ q : Clm, RowC (W2.alloc (.cells #[.int .i64 r.kind, .slice A1 r.sets.length k1, .bool r.total, .bool r.clear] 43)) q → RowC w5 q := fun q hq => hq.grown hgrow fun v ⟨s', n', xs', h'⟩ =>
          ownsRow_apart h' (HOW.out.alloc (.cells #[.int .i64 r.kind, .slice A1 r.sets.length k1, .bool r.total, .bool r.clear] 43)) (by decide)
        intro q hq
        rcases List.mem_append.1 hq with hq | hq
        · exact hA q (((hrows.out q hq).below hb5).below ((Below.refl _ _).alloc (Nat.le_refl _) _))
        · obtain rfl : q = _ := by simpa using hq
          exact hA _ (RowC.below (W := W2) ⟨p2, hl1, HOK.out⟩ ((Below.refl _ _).alloc (Nat.le_refl _) _))
      · show _ = _
        rw [HTK.out, List.map_append, List.map_append, hpl.out]; rfl
    · obtain rfl : j = cs.length := by omega
      have hjl := hlj.out
      obtain ⟨A', c', rfl, hs⟩ := Sl.of_own hown.out
      have HS := Lib.hid hs
      clear hs
      go_wp2
      go_ret
      refine ⟨A', c', l, rfl, by rw [hpl.out, List.take_length], ⟨HS.out, by omega, fun q hq => (hrows.out q hq).reads⟩, hbr.out⟩
end Go.Proofs.Ytidlmbajpbbilaa
namespace Go.Proofs.Ytidlmbajpbbilaa
open Go.RowKit

theorem u64_and (x p : Int) (hx : IsU64 x) (hp : IsU64 p) : ∃ A : Nat, bits BinOp.and IntKind.u64 x p = (A : Int) ∧ A ≤ x.toNat ∧ ∀ j, A.testBit j = (x.toNat.testBit j && p.toNat.testBit j) := by
  obtain ⟨X, rfl⟩ := Int.eq_ofNat_of_zero_le hx.1
  obtain ⟨P, rfl⟩ := Int.eq_ofNat_of_zero_le hp.1
  have h1 := hx.2; have h2 := hp.2
  refine ⟨X &&& P, ?_, Nat.and_le_left, fun j => by simp [Nat.testBit_and]⟩
  have h3 : X &&& P ≤ X := Nat.and_le_left
  show IntKind.u64.wrap ((BitVec.ofInt 64 (X : Int) &&& BitVec.ofInt 64 (P : Int)).toNat : Int) = _
  rw [BitVec.toNat_and, BitVec.ofInt_natCast, BitVec.ofInt_natCast, BitVec.toNat_ofNat, BitVec.toNat_ofNat, Nat.mod_eq_of_lt (by omega), Nat.mod_eq_of_lt (by omega), IntKind.wrap_u64]
  omega
theorem u64_andNot (x p : Int) (hx : IsU64 x) (hp : IsU64 p) : ∃ A : Nat, bits BinOp.andNot IntKind.u64 x p = (A : Int) ∧ A ≤ x.toNat ∧ ∀ j, A.testBit j = (x.toNat.testBit j && !p.toNat.testBit j) := by
  obtain ⟨X, rfl⟩ := Int.eq_ofNat_of_zero_le hx.1
  obtain ⟨P, rfl⟩ := Int.eq_ofNat_of_zero_le hp.1
  have h1 := hx.2; have h2 := hp.2
  have h3 : X &&& (2 ^ 64 - (P + 1)) ≤ X := Nat.and_le_left
  refine ⟨X &&& (2 ^ 64 - (P + 1)), ?_, h3, fun j => ?_⟩
  · show IntKind.u64.wrap ((BitVec.ofInt 64 (X : Int) &&& ~~~ BitVec.ofInt 64 (P : Int)).toNat : Int) = _
    rw [BitVec.toNat_and, BitVec.toNat_not, BitVec.ofInt_natCast, BitVec.ofInt_natCast, BitVec.toNat_ofNat, BitVec.toNat_ofNat, Nat.mod_eq_of_lt (by omega), Nat.mod_eq_of_lt (by omega), IntKind.wrap_u64]
    have e : 2 ^ 64 - 1 - P = 2 ^ 64 - (P + 1) := by omega
    rw [e]
    omega
  · have hX : X < 2 ^ 64 := by omega
    by_cases hj : j < 64
    · simp only [Int.toNat_natCast]
      rw [Nat.testBit_and, Nat.testBit_two_pow_sub_succ (by omega)]
      simp [hj]
    · have : X.testBit j = false := Nat.testBit_lt_two_pow (Nat.lt_of_lt_of_le hX (Nat.pow_le_pow_right (by omega) (by omega)))
      simp [Nat.testBit_and, this]
theorem bitB_test {x f : Int} (hx : 0 ≤ x) : bitB x f = x.toNat.testBit f.toNat := by
  obtain ⟨X, rfl⟩ := Int.eq_ofNat_of_zero_le hx
  unfold bitB
  rw [Int.toNat_natCast, ← bool_div X f.toNat]
  congr 1
theorem fitsB_le {sg x : Int} {A : Nat} (hx : 0 ≤ x) (hA : A ≤ x.toNat) (h : fitsB sg x = true) : fitsB sg (A : Int) = true := by
  simp only [fitsB, decide_eq_true_eq] at *
  have hp : (0 : Int) < 2 ^ sg.toNat := Int.pow_pos (by omega)
  have h1 : x < 2 ^ sg.toNat := by
    have := Int.lt_mul_ediv_self_add (x := x) hp
    rw [h] at this; simpa using this
  exact Int.ediv_eq_zero_of_lt (by omega) (by omega)
/-- a region's two parts by the first set -/
structure Parts (x : Int) (a b : Int) : Prop where
  oa : IsU64 a
  ob : IsU64 b
  q : ∃ q : Int → Bool, ∀ f, bitB a f = (bitB x f && q f) ∧ bitB b f = (bitB x f && !q f)
  fa : ∀ sg, fitsB sg x = true → fitsB sg a = true
  fb : ∀ sg, fitsB sg x = true → fitsB sg b = true
theorem parts_of (x p : Int) (hx : IsU64 x) (hp : IsU64 p) : Parts x (bits BinOp.and IntKind.u64 x p) (bits BinOp.andNot IntKind.u64 x p) := by
  obtain ⟨A, hA, hA1, hA2⟩ := u64_and x p hx hp
  obtain ⟨B, hB, hB1, hB2⟩ := u64_andNot x p hx hp
  rw [hA, hB]
  have h0 := hx.1; have h1 := hx.2
  refine ⟨⟨by omega, by omega⟩, ⟨by omega, by omega⟩, ⟨fun f => p.toNat.testBit f.toNat, fun f => ⟨?_, ?_⟩⟩, fun sg h => fitsB_le h0 hA1 h, fun sg h => fitsB_le h0 hB1 h⟩
  · rw [bitB_test (by omega), bitB_test h0, Int.toNat_natCast, hA2]
  · rw [bitB_test (by omega), bitB_test h0, Int.toNat_natCast, hB2]
theorem cnt_two {p p1 p2 : Nat → Bool} (h : ∀ k, p k = (p1 k || p2 k)) (hd : ∀ k, (p1 k && p2 k) = false) : ∀ k, cnt p k = cnt p1 k + cnt p2 k
  | 0 => rfl
  | k + 1 => by
    simp only [cnt, cnt_two h hd k, h k]
    have := hd k
    cases h1 : p1 k <;> cases h2 : p2 k <;> simp [h1, h2] at this ⊢ <;> omega
theorem cnt_zero {p : Nat → Bool} : ∀ {k : Nat}, cnt p k = 0 ↔ ∀ j, j < k → p j = false
  | 0 => by simp [cnt]
  | k + 1 => by
    have hb := cnt_bd p k
    have ih := cnt_zero (p := p) (k := k)
    constructor
    · intro h j hj
      simp only [cnt] at h
      cases hp : p k with
      | true => rw [hp] at h; simp at h; omega
      | false =>
        rw [hp] at h
        have h0 : cnt p k = 0 := by simpa using h
        rcases Nat.lt_succ_iff_lt_or_eq.1 hj with h1 | h1
        · exact ih.1 h0 j h1
        · rw [h1]; exact hp
    · intro h
      simp only [cnt, h k (by omega)]
      rw [ih.2 fun j hj => h j (by omega)]; rfl
theorem firstN_neg {p : Nat → Bool} {N : Nat} : firstN p N = -1 ↔ cnt p N = 0 := by
  rw [cnt_zero]
  constructor
  · intro h j hj
    cases hp : p j with
    | false => rfl
    | true =>
      have hd : decide (0 ≤ firstN p N) = (List.range N).any p := firstIdx_any p _
      have ha : (List.range N).any p = true := List.any_eq_true.2 ⟨j, by simpa using hj, hp⟩
      rw [ha] at hd
      have := of_decide_eq_true hd
      omega
  · exact firstN_none
section
variable {s : Sch} {kind x a b : Int} {rest : List Int}
theorem chart_cons {s : Sch} (V : Valid s) (k : Nat) : ∃ f fs, chartL s k = f :: fs := by
  have h : (chartL s k).length = s.places.toNat := digits_len _ _ _
  have := V.places
  cases hc : chartL s k with
  | nil => rw [hc] at h; simp at h; omega
  | cons f fs => exact ⟨f, fs, rfl⟩
theorem inR_parts (V : Valid s) (h : Parts x a b) : ∃ q : Nat → Bool, ∀ k, inR s (a :: rest) k = (inR s (x :: rest) k && q k) ∧ inR s (b :: rest) k = (inR s (x :: rest) k && !q k) := by
  obtain ⟨q, hq⟩ := h.q
  refine ⟨fun k => q ((chartL s k).headD 0), fun k => ?_⟩
  obtain ⟨f, fs, hc⟩ := chart_cons V k
  simp only [inR, hc, hasB, List.headD_cons, (hq f).1, (hq f).2]
  cases bitB x f <;> cases q f <;> simp
theorem regB_parts (h : Parts x a b) (hr : regB s (x :: rest) = true) : regB s (a :: rest) = true ∧ regB s (b :: rest) = true := by
  simp only [regB, List.length_cons, List.all_cons, Bool.and_eq_true] at *
  exact ⟨⟨hr.1, h.fa _ hr.2.1, hr.2.2⟩, ⟨hr.1, h.fb _ hr.2.1, hr.2.2⟩⟩
/-- what Count finds of a region and of its parts -/
theorem count_parts (V : Valid s) (h : Parts x a b) : cnt (inR s (x :: rest)) (chartsC s) = cnt (inR s (a :: rest)) (chartsC s) + cnt (inR s (b :: rest)) (chartsC s) ∧
    cnt (silR s (x :: rest) kind) (chartsC s) = cnt (silR s (a :: rest) kind) (chartsC s) + cnt (silR s (b :: rest) kind) (chartsC s) ∧
    cnt (splR s (x :: rest) kind) (chartsC s) = cnt (splR s (a :: rest) kind) (chartsC s) + cnt (splR s (b :: rest) kind) (chartsC s) ∧
    ∀ i : Nat, cnt (saidR s (x :: rest) kind i) (chartsC s) = cnt (saidR s (a :: rest) kind i) (chartsC s) + cnt (saidR s (b :: rest) kind i) (chartsC s) := by
  obtain ⟨q, hq⟩ := inR_parts (rest := rest) V h
  refine ⟨cnt_two (fun k => ?_) (fun k => ?_) _, cnt_two (fun k => ?_) (fun k => ?_) _, cnt_two (fun k => ?_) (fun k => ?_) _, fun i => cnt_two (fun k => ?_) (fun k => ?_) _⟩
  all_goals
    simp only [silR, splR, saidR, (hq k).1, (hq k).2]
    generalize inR s (x :: rest) k = u
    generalize q k = v
  · cases u <;> cases v <;> rfl
  · cases u <;> cases v <;> rfl
  · generalize (kdAt s kind k == 2) = z; cases u <;> cases v <;> cases z <;> rfl
  · generalize (kdAt s kind k == 2) = z; cases u <;> cases v <;> cases z <;> rfl
  · generalize (kdAt s kind k == 3) = z; cases u <;> cases v <;> cases z <;> rfl
  · generalize (kdAt s kind k == 3) = z; cases u <;> cases v <;> cases z <;> rfl
  · generalize (ansL s kind k == [i]) = z; cases u <;> cases v <;> cases z <;> rfl
  · generalize (ansL s kind k == [i]) = z; cases u <;> cases v <;> cases z <;> rfl
end
/-- the charts of a region that are silent, split, or answered by one of the first i answers -/
def psR (s : Sch) (sets : List Int) (kind : Int) (i : Nat) (k : Nat) : Bool := inR s sets k && (kdAt s kind k == 2 || kdAt s kind k == 3 || (List.range i).any fun a => ansL s kind k == [a])
theorem psR_zero (s : Sch) (sets : List Int) (kind : Int) : cnt (psR s sets kind 0) (chartsC s) = cnt (silR s sets kind) (chartsC s) + cnt (splR s sets kind) (chartsC s) := by
  refine cnt_two (fun k => ?_) (fun k => ?_) _
  · simp only [psR, silR, splR, List.range_zero, List.any_nil, Bool.or_false]
    generalize inR s sets k = u
    generalize (kdAt s kind k == 2) = v
    generalize (kdAt s kind k == 3) = z
    cases u <;> cases v <;> cases z <;> rfl
  · simp only [silR, splR]
    rcases kindOf_cases (ansL s kind k) with h | h | h
    all_goals (have h' : kdAt s kind k = _ := h; rw [h']; cases inR s sets k <;> rfl)
theorem psR_succ (s : Sch) (sets : List Int) (kind : Int) (i : Nat) : cnt (psR s sets kind (i + 1)) (chartsC s) = cnt (psR s sets kind i) (chartsC s) + cnt (saidR s sets kind i) (chartsC s) := by
  refine cnt_two (fun k => ?_) (fun k => ?_) _
  · simp only [psR, saidR, List.range_succ, List.any_append, List.any_cons, List.any_nil, Bool.or_false]
    generalize inR s sets k = u
    generalize (kdAt s kind k == 2) = v
    generalize (kdAt s kind k == 3) = z
    generalize ((List.range i).any fun a => ansL s kind k == [a]) = y
    generalize (ansL s kind k == [i]) = t
    cases u <;> cases v <;> cases z <;> cases y <;> cases t <;> rfl
  · simp only [psR, saidR]
    cases ht : ansL s kind k == [i] with
    | false => simp
    | true =>
      have e : ansL s kind k = [i] := by simpa using ht
      have h' : kdAt s kind k = 1 := by unfold kdAt; rw [e]; rfl
      have hn : ((List.range i).any fun a => ansL s kind k == [a]) = false := by
        rw [Bool.eq_false_iff]; intro h
        obtain ⟨a, ha, hb⟩ := List.any_eq_true.1 h
        rw [e] at hb
        simp only [beq_iff_eq, List.cons.injEq, and_true] at hb
        have := List.mem_range.1 ha
        omega
      rw [h', hn]; simp
theorem psR_all {s : Sch} (V : Valid s) (sets : List Int) (kind : Int) : cnt (psR s sets kind s.answers.toNat) (chartsC s) = cnt (inR s sets) (chartsC s) := by
  congr 1
  funext k
  simp only [psR]
  rcases kindOf_cases (ansL s kind k) with h | h | h
  · have h' : kdAt s kind k = 2 := h
    rw [h']; simp
  · have h' : kdAt s kind k = 3 := h
    rw [h']; simp
  · obtain ⟨y, hy⟩ := kindOf_one h
    have hyp : ansOf s 0 kind (chartL s k) y = true := by
      have : y ∈ ansL s kind k := by rw [hy]; simp
      exact (List.mem_filter.1 this).2
    have hyl := saidTo_lt V _ hyp
    have : ((List.range s.answers.toNat).any fun a => ansL s kind k == [a]) = true := List.any_eq_true.2 ⟨y, by simpa using hyl, by simp [hy]⟩
    rw [this]; simp
theorem keepsI_one (s : Sch) (c : Clm) : (keepsI s [c] 0).1 = (if cnt (badC s c) (chartsC s) = 0 then -1 else 0) := by
  simp only [keepsI]
  by_cases h : cnt (badC s c) (chartsC s) = 0
  · have h1 := firstN_neg.2 h
    rw [if_neg (by omega), if_pos h]
  · have h1 : firstN (badC s c) (chartsC s) ≠ -1 := fun e => h (firstN_neg.1 e)
    have h2 : 0 ≤ firstN (badC s c) (chartsC s) := by
      rcases Int.lt_or_le (firstN (badC s c) (chartsC s)) 0 with h3 | h3
      · have := firstIdx_neg (p := badC s c) (l := List.range (chartsC s)) (by show ¬ 0 ≤ firstN _ _; omega)
        exact absurd this h1
      · exact h3
    rw [if_pos h2, if_neg h]; rfl
end Go.Proofs.Ytidlmbajpbbilaa

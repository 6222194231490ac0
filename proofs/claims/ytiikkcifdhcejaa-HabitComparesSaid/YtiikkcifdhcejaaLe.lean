/- habit: the law HabitCompares. -/
import Derived.Test.YtiikkcifdhcejaaZ32Uh
import Derived.Test.YtiikkcifdhcejaaWs
namespace Go.Proofs.Ytiikkcifdhcejaa
open Go.RowKit

set_option maxRecDepth 100000 in
set_option maxHeartbeats 2000000 in
theorem rchance9_any (n d : Int) (w : World) : Calls Try.prog 19 #[.agg #[.int .i64 n, .int .i64 d]] w fun e w' => e = .returned (.bool (okC ⟨n, d⟩)) ∧ Below w.heap.size w w' := by
  by_cases h1 : 1 ≤ d
  · have e1 : decide (1 ≤ d) = true := by simpa using h1
    by_cases h2 : d ≤ 1000000000000000
    · have e2 : decide (d ≤ 1000000000000000) = true := by simpa using h2
      by_cases h3 : 0 ≤ n
      · have e3 : decide (0 ≤ n) = true := by simpa using h3
        by_cases h4 : n ≤ d
        · have e4 : decide (n ≤ d) = true := by simpa using h4
          have HD := Lib.hid (fun W => udiv_any n d W h3 (by omega) (by omega) (by omega))
          have HT : Hid (okC ⟨n, d⟩ = (gI n d == 1)) := (by
            unfold okC
            rw [Bool.eq_iff_iff]
            simp [h1, h2, h3, h4] : okC ⟨n, d⟩ = (gI n d == 1))
          obtain ⟨g, hg⟩ : ∃ g, g = gI n d := ⟨_, rfl⟩
          rw [← hg] at HD HT
          clear hg
          go_enter Try.func19, Try.ntmps19
          go_wp2_with (go_at_call 50; refine (HD.out _).mono ?_; rintro _ w1 ⟨rfl, hb1⟩)
          go_ret
          exact ⟨ret_bool HT.out.symm, bl3 (Below.refl _ _) hb1⟩
        · have e4 : decide (n ≤ d) = false := by simpa using h4
          have HT : Hid (okC ⟨n, d⟩ = false) := (by simp [okC, h4] : okC ⟨n, d⟩ = false)
          go_enter Try.func19, Try.ntmps19
          go_wp2
          go_ret
          exact ⟨ret_bool HT.out.symm, by (repeat (first | exact Below.refl _ _ | assumption | (refine Below.alloc ?_ (by first | omega | (simp; omega) | (simp; done)) _) | (refine Below.setCell ?_ (by first | omega | (simp; omega) | (simp; done)) _) | (refine Below.drew ?_) | (refine belowN ?_ _) | (refine Below.trans ?_ (Below.mono ‹Below _ _ _› (by first | omega | (simp; omega) | (simp; done))))))⟩
      · have e3 : decide (0 ≤ n) = false := by simpa using h3
        have HT : Hid (okC ⟨n, d⟩ = false) := (by simp [okC, h3] : okC ⟨n, d⟩ = false)
        go_enter Try.func19, Try.ntmps19
        go_wp2
        go_ret
        exact ⟨ret_bool HT.out.symm, by (repeat (first | exact Below.refl _ _ | assumption | (refine Below.alloc ?_ (by first | omega | (simp; omega) | (simp; done)) _) | (refine Below.setCell ?_ (by first | omega | (simp; omega) | (simp; done)) _) | (refine Below.drew ?_) | (refine belowN ?_ _) | (refine Below.trans ?_ (Below.mono ‹Below _ _ _› (by first | omega | (simp; omega) | (simp; done))))))⟩
    · have e2 : decide (d ≤ 1000000000000000) = false := by simpa using h2
      have HT : Hid (okC ⟨n, d⟩ = false) := (by simp [okC, h2] : okC ⟨n, d⟩ = false)
      go_enter Try.func19, Try.ntmps19
      go_wp2
      go_ret
      exact ⟨ret_bool HT.out.symm, by (repeat (first | exact Below.refl _ _ | assumption | (refine Below.alloc ?_ (by first | omega | (simp; omega) | (simp; done)) _) | (refine Below.setCell ?_ (by first | omega | (simp; omega) | (simp; done)) _) | (refine Below.drew ?_) | (refine belowN ?_ _) | (refine Below.trans ?_ (Below.mono ‹Below _ _ _› (by first | omega | (simp; omega) | (simp; done))))))⟩
  · have e1 : decide (1 ≤ d) = false := by simpa using h1
    have HT : Hid (okC ⟨n, d⟩ = false) := (by simp [okC, h1] : okC ⟨n, d⟩ = false)
    go_enter Try.func19, Try.ntmps19
    go_wp2
    go_ret
    exact ⟨ret_bool HT.out.symm, by (repeat (first | exact Below.refl _ _ | assumption | (refine Below.alloc ?_ (by first | omega | (simp; omega) | (simp; done)) _) | (refine Below.setCell ?_ (by first | omega | (simp; omega) | (simp; done)) _) | (refine Below.drew ?_) | (refine belowN ?_ _) | (refine Below.trans ?_ (Below.mono ‹Below _ _ _› (by first | omega | (simp; omega) | (simp; done))))))⟩
/-- a value that is a copy of a model, of a list -/
def OwnQ (m : HMd) (q : Value) (W : World) : Prop := ∃ y : Md, q = .agg #[.int .i64 y.kind, .slice y.a y.rows.length y.c, .int .i64 y.after] ∧ y.m = m ∧ y.reads W W.heap.size
theorem OwnQ.stays {m : HMd} : Stays (OwnQ m) := fun _ _ _ ⟨y, h1, h2, h3⟩ hb => ⟨y, h1, h2, (h3.below hb).more hb.size⟩
def IntsQ (l : List Int) (n : Nat) (q : Value) (W : World) : Prop := ∃ B k, q = .slice B n k ∧ Sl intCell 1 W W.heap.size B l
theorem IntsQ.stays {l : List Int} {n : Nat} : Stays (IntsQ l n) := fun _ _ _ ⟨B, k, h1, h2⟩ hb => ⟨B, k, h1, (h2.below hb).more hb.size⟩
def newQ (V : World) (cs : Array Value) (t : TypeId) (q : Value) (W : World) : Prop := ∃ b, q = .pointer (some ⟨b, 0, none⟩) ∧ Blk W b cs t ∧ V.heap.size ≤ b
theorem newQ_stays {V : World} {cs : Array Value} {t : TypeId} : Stays (newQ V cs t) := fun _ _ _ ⟨b, h1, h2, h3⟩ hb => ⟨b, h1, h2.below hb h2.lt, h3⟩
set_option maxRecDepth 100000 in
set_option maxHeartbeats 4000000 in
theorem lwcmp_any (c : Ch) (a b : Md) (l : List Int) (lA : Option Addr) (lc : Nat) (w : World) (ha : Lists w w.heap.size a.a a.rows) (hb : Lists w w.heap.size b.a b.rows) (hna : ∀ r ∈ a.rows, r.a = none → r.c = 0) (hnb : ∀ r ∈ b.rows, r.a = none → r.c = 0)
    (hl : Sl intCell 1 w w.heap.size lA l) (hlA : lA = none → lc = 0) :
    Calls Try.prog 3 #[.agg #[.int .i64 a.kind, .slice a.a a.rows.length a.c, .int .i64 a.after, .int .i64 b.kind, .slice b.a b.rows.length b.c, .int .i64 b.after, .int .i64 c.n, .int .i64 c.d], .slice lA l.length lc] w fun e w' => e = .returned (.bool true) ∧ Below w.heap.size w w' := by
  obtain ⟨la, hla⟩ : ∃ q, q = largeB a.m := ⟨_, rfl⟩
  obtain ⟨lb, hlb⟩ : ∃ q, q = largeB b.m := ⟨_, rfl⟩
  have HLA : Hid (∀ W, Below w.heap.size w W → Calls Try.prog 11 #[.agg #[.int .i64 a.kind, .slice a.a a.rows.length a.c, .int .i64 a.after]] W fun e w' => e = .returned (.bool la) ∧ Below W.heap.size W w') := Lib.hid fun W hW => by rw [hla]; exact llarge_any a W ((ha.below hW).more hW.size)
  have HLB : Hid (∀ W, Below w.heap.size w W → Calls Try.prog 11 #[.agg #[.int .i64 b.kind, .slice b.a b.rows.length b.c, .int .i64 b.after]] W fun e w' => e = .returned (.bool lb) ∧ Below W.heap.size W w') := Lib.hid fun W hW => by rw [hlb]; exact llarge_any b W ((hb.below hW).more hW.size)
  have HA := Lib.hid ha; have HB := Lib.hid hb; have HNA := Lib.hid hna; have HNB := Lib.hid hnb; have HL := Lib.hid hl; have HLN := Lib.hid hlA; have HLL := Lib.hid hla; have HLM := Lib.hid hlb
  clear ha hb hna hnb hl hlA hla hlb
  go_enter Try.func3, Try.ntmps3
  go_upto_region 1 with fail
  obtain ⟨b3, hb3⟩ : ∃ q, q = w.heap.size := ⟨_, rfl⟩
  rw [← hb3]
  refine gen_w (fun W => Blk W b3 #[.int .i64 a.kind, .slice a.a a.rows.length a.c, .int .i64 a.after, .int .i64 b.kind, .slice b.a b.rows.length b.c, .int .i64 b.after, .int .i64 c.n, .int .i64 c.d] 29 ∧ Below w.heap.size w W) ⟨Blk.at_ hb3, by (repeat (first | exact Below.refl _ _ | assumption | (refine Below.alloc ?_ (by first | omega | (simp; omega) | (simp; done)) _) | (refine Below.setCell ?_ (by first | omega | (simp; omega) | (simp; done)) _) | (refine Below.drew ?_) | (refine belowN ?_ _) | (refine Below.trans ?_ (Below.mono ‹Below _ _ _› (by first | omega | (simp; omega) | (simp; done))))))⟩ ?_
  rintro V ⟨g, hw⟩
  have hwb : w.heap.size ≤ b3 := by omega
  clear hb3
  (have z0 := g.cell 0; have z1 := g.cell 1; have z2 := g.cell 2; have z3 := g.cell 3; have z4 := g.cell 4; have z5 := g.cell 5; have z6 := g.cell 6; have z7 := g.cell 7; simp at z0 z1 z2 z3 z4 z5 z6 z7)
  cases la with
  | true =>
    go_wp2_with (first | (go_at_call 11; (with_reducible refine (HLA.out _ hw).mono ?_); rintro _ w1 ⟨rfl, hb1⟩; have g := g.below hb1 g.lt; have hw := bl2 hw hb1; clear z0 z1 z2 z3 z4 z5 z6 z7; (have z0 := g.cell 0; have z1 := g.cell 1; have z2 := g.cell 2; have z3 := g.cell 3; have z4 := g.cell 4; have z5 := g.cell 5; have z6 := g.cell 6; have z7 := g.cell 7; simp at z0 z1 z2 z3 z4 z5 z6 z7)) | (go_at_call 12; refine (known_any _).mono ?_; rintro _ w9 ⟨rfl, hb9⟩; have hw := bl2 hw hb9) | fail)
    go_ret
    exact ⟨rfl, hw⟩
  | false =>
  cases lb with
  | true =>
    go_wp2_with (first | (go_at_call 11; (with_reducible refine (HLA.out _ hw).mono ?_); rintro _ w1 ⟨rfl, hb1⟩; have g := g.below hb1 g.lt; have hw := bl2 hw hb1; clear z0 z1 z2 z3 z4 z5 z6 z7; (have z0 := g.cell 0; have z1 := g.cell 1; have z2 := g.cell 2; have z3 := g.cell 3; have z4 := g.cell 4; have z5 := g.cell 5; have z6 := g.cell 6; have z7 := g.cell 7; simp at z0 z1 z2 z3 z4 z5 z6 z7)) | (go_at_call 11; (with_reducible refine (HLB.out _ hw).mono ?_); rintro _ w2 ⟨rfl, hb2⟩; have g := g.below hb2 g.lt; have hw := bl2 hw hb2; clear z0 z1 z2 z3 z4 z5 z6 z7; (have z0 := g.cell 0; have z1 := g.cell 1; have z2 := g.cell 2; have z3 := g.cell 3; have z4 := g.cell 4; have z5 := g.cell 5; have z6 := g.cell 6; have z7 := g.cell 7; simp at z0 z1 z2 z3 z4 z5 z6 z7)) | (go_at_call 12; refine (known_any _).mono ?_; rintro _ w9 ⟨rfl, hb9⟩; have hw := bl2 hw hb9) | fail)
    go_ret
    exact ⟨rfl, hw⟩
  | false =>
  by_cases h410 : 410 < l.length
  · have hQ : decide ((410 : Int) < (l.length : Int)) = true := by simp; omega
    go_wp2_with (first | (go_at_call 11; (with_reducible refine (HLA.out _ hw).mono ?_); rintro _ w1 ⟨rfl, hb1⟩; have g := g.below hb1 g.lt; have hw := bl2 hw hb1; clear z0 z1 z2 z3 z4 z5 z6 z7; (have z0 := g.cell 0; have z1 := g.cell 1; have z2 := g.cell 2; have z3 := g.cell 3; have z4 := g.cell 4; have z5 := g.cell 5; have z6 := g.cell 6; have z7 := g.cell 7; simp at z0 z1 z2 z3 z4 z5 z6 z7)) | (go_at_call 11; (with_reducible refine (HLB.out _ hw).mono ?_); rintro _ w2 ⟨rfl, hb2⟩; have g := g.below hb2 g.lt; have hw := bl2 hw hb2; clear z0 z1 z2 z3 z4 z5 z6 z7; (have z0 := g.cell 0; have z1 := g.cell 1; have z2 := g.cell 2; have z3 := g.cell 3; have z4 := g.cell 4; have z5 := g.cell 5; have z6 := g.cell 6; have z7 := g.cell 7; simp at z0 z1 z2 z3 z4 z5 z6 z7)) | (go_at_call 12; refine (known_any _).mono ?_; rintro _ w9 ⟨rfl, hb9⟩; have hw := bl2 hw hb9) | fail)
    go_ret
    exact ⟨rfl, hw⟩
  have hQ : decide ((410 : Int) < (l.length : Int)) = false := by simp; omega
  have hbl : Below w.heap.size w w := Below.refl _ w
  have HRA : Hid (a.rows.length ≤ 1000000 ∧ ∀ r ∈ a.rows, r.l.length ≤ 1000000) := Lib.hid (by
    have h9 := HLL.out.symm
    unfold largeB Md.m at h9
    simp only [Bool.or_eq_false_iff, decide_eq_false_iff_not, List.any_map, List.any_eq_false, List.length_map] at h9
    exact ⟨by omega, fun r hr => by have := h9.2 r hr; simp at this; omega⟩)
  have HRB : Hid (b.rows.length ≤ 1000000 ∧ ∀ r ∈ b.rows, r.l.length ≤ 1000000) := Lib.hid (by
    have h9 := HLM.out.symm
    unfold largeB Md.m at h9
    simp only [Bool.or_eq_false_iff, decide_eq_false_iff_not, List.any_map, List.any_eq_false, List.length_map] at h9
    exact ⟨by omega, fun r hr => by have := h9.2 r hr; simp at this; omega⟩)
  have HOA := Lib.hid (fun W (hW : Below w.heap.size w W) => lown_any a W ⟨(HA.out.below hW).more hW.size, HRA.out.1, HRA.out.2⟩ HNA.out)
  have HOB := Lib.hid (fun W (hW : Below w.heap.size w W) => lown_any b W ⟨(HB.out.below hW).more hW.size, HRB.out.1, HRB.out.2⟩ HNB.out)
  have HIN := Lib.hid (fun W (hW : Below w.heap.size w W) => lints_any lA lc l.length l W rfl (by omega) HLN.out ((HL.out.below hW).more hW.size))
  have HRAd : Hid (∀ W, Below w.heap.size w W → a.reads W W.heap.size) := Lib.hid fun W hW => ⟨(HA.out.below hW).more hW.size, HRA.out.1, HRA.out.2⟩
  have HRBd : Hid (∀ W, Below w.heap.size w W → b.reads W W.heap.size) := Lib.hid fun W hW => ⟨(HB.out.below hW).more hW.size, HRB.out.1, HRB.out.2⟩
  obtain ⟨⟨kn, ke⟩, hk⟩ : ∃ q : Int × Int, q = hcmpR a.m b.m l := ⟨_, rfl⟩
  have HCM : Hid (∀ W (y1 y2 : Md) B k, y1.m = a.m → y2.m = b.m → y1.reads W W.heap.size → y2.reads W W.heap.size → Sl intCell 1 W W.heap.size B l → Calls Try.prog 13 #[.agg #[.int .i64 y1.kind, .slice y1.a y1.rows.length y1.c, .int .i64 y1.after], .agg #[.int .i64 y2.kind, .slice y2.a y2.rows.length y2.c, .int .i64 y2.after], .slice B l.length k] W fun e w' => e = .returned (.tuple #[.int .i64 kn, .int .i64 ke]) ∧ Below W.heap.size W w') := Lib.hid fun W y1 y2 B k e1 e2 e3 e4 e5 => by
    have := habCmp_any y1 y2 l B k W (by omega) e3 e4 e5
    rw [e1, e2, ← hk] at this
    exact this
  obtain ⟨⟨rn, rd, re⟩, hres⟩ : ∃ q : Int × Int × Int, q = belR c a.m b.m l := ⟨_, rfl⟩
  have HBE : Hid (∀ W (y1 y2 : Md) B k, y1.m = a.m → y2.m = b.m → y1.reads W W.heap.size → y2.reads W W.heap.size → Sl intCell 1 W W.heap.size B l → Calls Try.prog 16 #[.agg #[.int .i64 c.n, .int .i64 c.d], .agg #[.int .i64 y1.kind, .slice y1.a y1.rows.length y1.c, .int .i64 y1.after], .agg #[.int .i64 y2.kind, .slice y2.a y2.rows.length y2.c, .int .i64 y2.after], .slice B l.length k] W (RetC (rn, rd, re) W)) := Lib.hid fun W y1 y2 B k h1 h2 h3 h4 h5 => by
    rw [hres, ← h1, ← h2]; exact belF_any c y1 y2 l B k W (by omega) h3 h4 h5
  have HRES := Lib.hid hres
  have HK := Lib.hid hk
  clear hres hk hbl
  go_upto_region 3 with (first | (go_at_call 11; (with_reducible refine (HLA.out _ hw).mono ?_); rintro _ w1 ⟨rfl, hb1⟩; have g := g.below hb1 g.lt; have hw := bl2 hw hb1; clear z0 z1 z2 z3 z4 z5 z6 z7; (have z0 := g.cell 0; have z1 := g.cell 1; have z2 := g.cell 2; have z3 := g.cell 3; have z4 := g.cell 4; have z5 := g.cell 5; have z6 := g.cell 6; have z7 := g.cell 7; simp at z0 z1 z2 z3 z4 z5 z6 z7)) | (go_at_call 11; (with_reducible refine (HLB.out _ hw).mono ?_); rintro _ w2 ⟨rfl, hb2⟩; have g := g.below hb2 g.lt; have hw := bl2 hw hb2; clear z0 z1 z2 z3 z4 z5 z6 z7; (have z0 := g.cell 0; have z1 := g.cell 1; have z2 := g.cell 2; have z3 := g.cell 3; have z4 := g.cell 4; have z5 := g.cell 5; have z6 := g.cell 6; have z7 := g.cell 7; simp at z0 z1 z2 z3 z4 z5 z6 z7)) | fail)
  clear z0 z1 z2 z3 z4 z5 z6 z7
  rename World => V1x
  refine gen_w (fun W => Blk W b3 #[.int .i64 a.kind, .slice a.a a.rows.length a.c, .int .i64 a.after, .int .i64 b.kind, .slice b.a b.rows.length b.c, .int .i64 b.after, .int .i64 c.n, .int .i64 c.d] 29 ∧ Below w.heap.size w W) ⟨g, hw⟩ ?_
  clear g hw
  rintro V2 ⟨g, hw⟩
  have hl3 : b3 < V2.heap.size := g.lt
  have hS : ∀ W, Below V2.heap.size V2 W → W.cell? ⟨b3, 0, none⟩ = some (.int .i64 a.kind) ∧ W.cell? ⟨b3, 1, none⟩ = some (.slice a.a a.rows.length a.c) ∧ W.cell? ⟨b3, 2, none⟩ = some (.int .i64 a.after) ∧ W.cell? ⟨b3, 3, none⟩ = some (.int .i64 b.kind) ∧ W.cell? ⟨b3, 4, none⟩ = some (.slice b.a b.rows.length b.c) ∧ W.cell? ⟨b3, 5, none⟩ = some (.int .i64 b.after) ∧ W.cell? ⟨b3, 6, none⟩ = some (.int .i64 c.n) ∧ W.cell? ⟨b3, 7, none⟩ = some (.int .i64 c.d) := fun W hW => by
    have g := g.below hW g.lt
    (have z0 := g.cell 0; have z1 := g.cell 1; have z2 := g.cell 2; have z3 := g.cell 3; have z4 := g.cell 4; have z5 := g.cell 5; have z6 := g.cell 6; have z7 := g.cell 7; simp at z0 z1 z2 z3 z4 z5 z6 z7)
    exact ⟨z0, z1, z2, z3, z4, z5, z6, z7⟩
  refine' wp_region_planE [.eff, .eff, .eff, .eff, .eff, .eff, .eff, .eff, .eff, .eff, .eff, .eff, .eff, .eff] [Det _, Det _, OwnQ a.m, Det _, Det _, OwnQ b.m, Det _, IntsQ l l.length, Det (.tuple #[.int .i64 kn, .int .i64 ke]), Det (.tuple #[.int .i64 kn, .int .i64 ke]), Det (.int .i64 kn), Det (.int .i64 ke), Det _, Det _] [(13, 6), (12, 5), (11, 36), (10, 35), (9, 25), (8, 34), (7, 33), (6, 32), (5, 31), (4, 30), (3, 29), (2, 28), (1, 27), (0, 26)] (by kernel_rfl) (by kernel_rfl) (by kernel_rfl) (by kernel_rfl) (by kernel_rfl) (by kernel_rfl) (by kernel_rfl) ?hp2 ?hend2 ?hst2
  case hp2 =>
    refine And.intro ⟨[], by kernel_rfl, fun xs W hW hf K hK => opV_free rfl ?_⟩ ?_
    focus (have hs := hS W hW; (try simp only [factsL, pickF, Det, and_true] at hf); (try simp only [putL, Act.put, List.setIfInBounds_toArray, List.set_cons_zero, List.set_cons_succ]); (try simp only [hf]); go_simp; refine hK.out _ _ (Below.refl _ _) ?_; unfold Det; rfl)
    refine And.intro ⟨[(0, 26)], by kernel_rfl, fun xs W hW hf K hK => opV_free rfl ?_⟩ ?_
    focus (have hs := hS W hW; (try simp only [factsL, pickF, Det, and_true] at hf); (try simp only [putL, Act.put, List.setIfInBounds_toArray, List.set_cons_zero, List.set_cons_succ]); (try simp only [hf]); go_simp; refine hK.out _ _ (Below.refl _ _) ?_; unfold Det; rfl)
    refine And.intro ⟨[(1, 27)], by kernel_rfl, fun xs W hW hf K hK => opV_free rfl ?_⟩ ?_
    · simp only [factsL, pickF, Det, and_true] at hf
      (try simp only [putL, Act.put, List.setIfInBounds_toArray, List.set_cons_zero, List.set_cons_succ])
      simp only [hf]
      go_simp
      refine (HOA.out _ (bl2 hw hW)).mono ?_
      rintro _ w9 ⟨y, rfl, hy, hr, hb9⟩
      exact ⟨_, rfl, hK.out _ _ hb9 ⟨y, rfl, hy, hr⟩⟩
    refine And.intro ⟨[], by kernel_rfl, fun xs W hW hf K hK => opV_free rfl ?_⟩ ?_
    focus (have hs := hS W hW; (try simp only [factsL, pickF, Det, and_true] at hf); (try simp only [putL, Act.put, List.setIfInBounds_toArray, List.set_cons_zero, List.set_cons_succ]); (try simp only [hf]); go_simp; refine hK.out _ _ (Below.refl _ _) ?_; unfold Det; rfl)
    refine And.intro ⟨[(3, 29)], by kernel_rfl, fun xs W hW hf K hK => opV_free rfl ?_⟩ ?_
    focus (have hs := hS W hW; (try simp only [factsL, pickF, Det, and_true] at hf); (try simp only [putL, Act.put, List.setIfInBounds_toArray, List.set_cons_zero, List.set_cons_succ]); (try simp only [hf]); go_simp; refine hK.out _ _ (Below.refl _ _) ?_; unfold Det; rfl)
    refine And.intro ⟨[(4, 30)], by kernel_rfl, fun xs W hW hf K hK => opV_free rfl ?_⟩ ?_
    · simp only [factsL, pickF, Det, and_true] at hf
      (try simp only [putL, Act.put, List.setIfInBounds_toArray, List.set_cons_zero, List.set_cons_succ])
      simp only [hf]
      go_simp
      refine (HOB.out _ (bl2 hw hW)).mono ?_
      rintro _ w9 ⟨y, rfl, hy, hr, hb9⟩
      exact ⟨_, rfl, hK.out _ _ hb9 ⟨y, rfl, hy, hr⟩⟩
    refine And.intro ⟨[], by kernel_rfl, fun xs W hW hf K hK => opV_free rfl ?_⟩ ?_
    focus (have hs := hS W hW; (try simp only [factsL, pickF, Det, and_true] at hf); (try simp only [putL, Act.put, List.setIfInBounds_toArray, List.set_cons_zero, List.set_cons_succ]); (try simp only [hf]); go_simp; refine hK.out _ _ (Below.refl _ _) ?_; unfold Det; rfl)
    refine And.intro ⟨[(6, 32)], by kernel_rfl, fun xs W hW hf K hK => opV_free rfl ?_⟩ ?_
    · simp only [factsL, pickF, Det, and_true] at hf
      (try simp only [putL, Act.put, List.setIfInBounds_toArray, List.set_cons_zero, List.set_cons_succ])
      simp only [hf]
      go_simp
      refine (HIN.out _ (bl2 hw hW)).mono ?_
      rintro _ w9 ⟨B, k, rfl, hs, -, -, -, hb9⟩
      exact ⟨_, rfl, hK.out _ _ hb9 ⟨B, k, rfl, hs⟩⟩
    refine And.intro ⟨[(7, 33), (5, 31), (2, 28)], by kernel_rfl, fun xs W hW hf K hK => opV_free rfl ?_⟩ ?_
    · simp only [factsL, pickF, Det, and_true] at hf
      (try simp only [putL, Act.put, List.setIfInBounds_toArray, List.set_cons_zero, List.set_cons_succ])
      obtain ⟨⟨B, k, e1, hs⟩, ⟨y2, e2, hy2, hr2⟩, ⟨y1, e3, hy1, hr1⟩⟩ := hf
      simp only [e1, e2, e3]
      go_simp
      refine (HCM.out _ y1 y2 B k hy1 hy2 hr1 hr2 hs).mono ?_
      rintro _ w9 ⟨rfl, hb9⟩
      exact ⟨_, rfl, hK.out _ _ hb9 rfl⟩
    refine And.intro ⟨[(8, 34)], by kernel_rfl, fun xs W hW hf K hK => opV_free rfl ?_⟩ ?_
    focus (have hs := hS W hW; (try simp only [factsL, pickF, Det, and_true] at hf); (try simp only [putL, Act.put, List.setIfInBounds_toArray, List.set_cons_zero, List.set_cons_succ]); (try simp only [hf]); go_simp; refine hK.out _ _ (Below.refl _ _) ?_; unfold Det; rfl)
    refine And.intro ⟨[(9, 25)], by kernel_rfl, fun xs W hW hf K hK => opV_free rfl ?_⟩ ?_
    focus (have hs := hS W hW; (try simp only [factsL, pickF, Det, and_true] at hf); (try simp only [putL, Act.put, List.setIfInBounds_toArray, List.set_cons_zero, List.set_cons_succ]); (try simp only [hf]); go_simp; refine hK.out _ _ (Below.refl _ _) ?_; unfold Det; rfl)
    refine And.intro ⟨[(9, 25)], by kernel_rfl, fun xs W hW hf K hK => opV_free rfl ?_⟩ ?_
    focus (have hs := hS W hW; (try simp only [factsL, pickF, Det, and_true] at hf); (try simp only [putL, Act.put, List.setIfInBounds_toArray, List.set_cons_zero, List.set_cons_succ]); (try simp only [hf]); go_simp; refine hK.out _ _ (Below.refl _ _) ?_; unfold Det; rfl)
    refine And.intro ⟨[(10, 35)], by kernel_rfl, fun xs W hW hf K hK => opV_free rfl ?_⟩ ?_
    focus (have hs := hS W hW; (try simp only [factsL, pickF, Det, and_true] at hf); (try simp only [putL, Act.put, List.setIfInBounds_toArray, List.set_cons_zero, List.set_cons_succ]); (try simp only [hf]); go_simp; refine hK.out _ _ (Below.refl _ _) ?_; unfold Det; rfl)
    refine And.intro ⟨[(11, 36)], by kernel_rfl, fun xs W hW hf K hK => opV_free rfl ?_⟩ ?_
    focus (have hs := hS W hW; (try simp only [factsL, pickF, Det, and_true] at hf); (try simp only [putL, Act.put, List.setIfInBounds_toArray, List.set_cons_zero, List.set_cons_succ]); (try simp only [hf]); go_simp; refine hK.out _ _ (Below.refl _ _) ?_; unfold Det; rfl)
    trivial
  case hst2 => exact ⟨det_stays, det_stays, OwnQ.stays, det_stays, det_stays, OwnQ.stays, det_stays, IntsQ.stays, det_stays, det_stays, det_stays, det_stays, det_stays, det_stays, trivial⟩
  case hend2 =>
    intro xs W hW hf
    simp only [factsA, Det, noF, Nat.zero_add, Nat.reduceAdd, and_true, true_and] at hf
    obtain ⟨f0, f1, f2, f3, f4, f5, f6, f7, f8, f9, f10, f11, f12, f13⟩ := hf
    (simp only [putL, Act.put, upd, List.setIfInBounds_toArray, List.set_cons_zero, List.set_cons_succ])
    simp only [f0, f1, f3, f4, f6, f8, f9, f10, f11, f12, f13]
    refine gen_w (fun W' => Blk W' b3 #[.int .i64 a.kind, .slice a.a a.rows.length a.c, .int .i64 a.after, .int .i64 b.kind, .slice b.a b.rows.length b.c, .int .i64 b.after, .int .i64 c.n, .int .i64 c.d] 29 ∧ Below w.heap.size w W') ⟨g.below hW hl3, bl2 hw hW⟩ ?_

    clear g hw hW hS f0 f1 f2 f3 f4 f5 f6 f7 f8 f9 f10 f11 f12 f13 hl3
    rintro V1 ⟨g, hw⟩
    go_upto_region 4 with fail
    have hS : ∀ W, Below V1.heap.size V1 W → W.cell? ⟨b3, 0, none⟩ = some (.int .i64 a.kind) ∧ W.cell? ⟨b3, 1, none⟩ = some (.slice a.a a.rows.length a.c) ∧ W.cell? ⟨b3, 2, none⟩ = some (.int .i64 a.after) ∧ W.cell? ⟨b3, 3, none⟩ = some (.int .i64 b.kind) ∧ W.cell? ⟨b3, 4, none⟩ = some (.slice b.a b.rows.length b.c) ∧ W.cell? ⟨b3, 5, none⟩ = some (.int .i64 b.after) ∧ W.cell? ⟨b3, 6, none⟩ = some (.int .i64 c.n) ∧ W.cell? ⟨b3, 7, none⟩ = some (.int .i64 c.d) := fun W hW => by
      have g := g.below hW g.lt
      (have z0 := g.cell 0; have z1 := g.cell 1; have z2 := g.cell 2; have z3 := g.cell 3; have z4 := g.cell 4; have z5 := g.cell 5; have z6 := g.cell 6; have z7 := g.cell 7; simp at z0 z1 z2 z3 z4 z5 z6 z7)
      exact ⟨z0, z1, z2, z3, z4, z5, z6, z7⟩
    refine' wp_region_plan 15 [14, 12, 11, 10, 9, 8, 7, 6, 5, 4, 3, 2, 1, 0] [.eff, .eff, .eff, .eff, .eff, .eff, .eff, .eff, .eff, .eff, .eff, .eff, .eff, .pur, .eff, .last, .post] [Det _, Det _, Det _, Det _, OwnQ a.m, Det _, Det _, OwnQ b.m, Det _, IntsQ l l.length, Det (.tuple #[.agg #[.int .i64 rn, .int .i64 rd], .int .i64 re]), Det (.tuple #[.agg #[.int .i64 rn, .int .i64 rd], .int .i64 re]), Det (.agg #[.int .i64 rn, .int .i64 rd]), Det (.int .i64 re), newQ V1 #[.int .i64 0, .int .i64 0] 27, noF, Det (.int .i64 re)] (by rfl) [(14, 7), (12, 49)] [(16, 8), (14, 7), (13, 50), (12, 49), (11, 37), (10, 48), (9, 47), (8, 46), (7, 45), (6, 44), (5, 43), (4, 42), (3, 41), (2, 40), (1, 39), (0, 38)] (by kernel_rfl) (by kernel_rfl) (by kernel_rfl) (by kernel_rfl) (by kernel_rfl) (by kernel_rfl) (by kernel_rfl) (by kernel_rfl) (by kernel_rfl) rfl ?hp ?hend ?hst
    case hp =>
      refine And.intro ⟨[], by kernel_rfl, fun xs W hW hf K hK => opV_free rfl ?_⟩ ?_
      focus (have hs := hS W hW; (try simp only [factsL, pickF, Det, and_true] at hf); (try simp only [putL, Act.put, List.setIfInBounds_toArray, List.set_cons_zero, List.set_cons_succ]); (try simp only [hf]); go_simp; refine hK.out _ _ (Below.refl _ _) ?_; unfold Det; rfl)
      refine And.intro ⟨[(0, 38)], by kernel_rfl, fun xs W hW hf K hK => opV_free rfl ?_⟩ ?_
      focus (have hs := hS W hW; (try simp only [factsL, pickF, Det, and_true] at hf); (try simp only [putL, Act.put, List.setIfInBounds_toArray, List.set_cons_zero, List.set_cons_succ]); (try simp only [hf]); go_simp; refine hK.out _ _ (Below.refl _ _) ?_; unfold Det; rfl)
      refine And.intro ⟨[], by kernel_rfl, fun xs W hW hf K hK => opV_free rfl ?_⟩ ?_
      focus (have hs := hS W hW; (try simp only [factsL, pickF, Det, and_true] at hf); (try simp only [putL, Act.put, List.setIfInBounds_toArray, List.set_cons_zero, List.set_cons_succ]); (try simp only [hf]); go_simp; refine hK.out _ _ (Below.refl _ _) ?_; unfold Det; rfl)
      refine And.intro ⟨[(2, 40)], by kernel_rfl, fun xs W hW hf K hK => opV_free rfl ?_⟩ ?_
      focus (have hs := hS W hW; (try simp only [factsL, pickF, Det, and_true] at hf); (try simp only [putL, Act.put, List.setIfInBounds_toArray, List.set_cons_zero, List.set_cons_succ]); (try simp only [hf]); go_simp; refine hK.out _ _ (Below.refl _ _) ?_; unfold Det; rfl)
      refine And.intro ⟨[(3, 41)], by kernel_rfl, fun xs W hW hf K hK => opV_free rfl ?_⟩ ?_
      · simp only [factsL, pickF, Det, and_true] at hf
        (try simp only [putL, Act.put, List.setIfInBounds_toArray, List.set_cons_zero, List.set_cons_succ])
        simp only [hf]
        go_simp
        refine (HOA.out _ (bl2 hw hW)).mono ?_
        rintro _ w9 ⟨y, rfl, hy, hr, hb9⟩
        exact ⟨_, rfl, hK.out _ _ hb9 ⟨y, rfl, hy, hr⟩⟩
      refine And.intro ⟨[], by kernel_rfl, fun xs W hW hf K hK => opV_free rfl ?_⟩ ?_
      focus (have hs := hS W hW; (try simp only [factsL, pickF, Det, and_true] at hf); (try simp only [putL, Act.put, List.setIfInBounds_toArray, List.set_cons_zero, List.set_cons_succ]); (try simp only [hf]); go_simp; refine hK.out _ _ (Below.refl _ _) ?_; unfold Det; rfl)
      refine And.intro ⟨[(5, 43)], by kernel_rfl, fun xs W hW hf K hK => opV_free rfl ?_⟩ ?_
      focus (have hs := hS W hW; (try simp only [factsL, pickF, Det, and_true] at hf); (try simp only [putL, Act.put, List.setIfInBounds_toArray, List.set_cons_zero, List.set_cons_succ]); (try simp only [hf]); go_simp; refine hK.out _ _ (Below.refl _ _) ?_; unfold Det; rfl)
      refine And.intro ⟨[(6, 44)], by kernel_rfl, fun xs W hW hf K hK => opV_free rfl ?_⟩ ?_
      · simp only [factsL, pickF, Det, and_true] at hf
        (try simp only [putL, Act.put, List.setIfInBounds_toArray, List.set_cons_zero, List.set_cons_succ])
        simp only [hf]
        go_simp
        refine (HOB.out _ (bl2 hw hW)).mono ?_
        rintro _ w9 ⟨y, rfl, hy, hr, hb9⟩
        exact ⟨_, rfl, hK.out _ _ hb9 ⟨y, rfl, hy, hr⟩⟩
      refine And.intro ⟨[], by kernel_rfl, fun xs W hW hf K hK => opV_free rfl ?_⟩ ?_
      focus (have hs := hS W hW; (try simp only [factsL, pickF, Det, and_true] at hf); (try simp only [putL, Act.put, List.setIfInBounds_toArray, List.set_cons_zero, List.set_cons_succ]); (try simp only [hf]); go_simp; refine hK.out _ _ (Below.refl _ _) ?_; unfold Det; rfl)
      refine And.intro ⟨[(8, 46)], by kernel_rfl, fun xs W hW hf K hK => opV_free rfl ?_⟩ ?_
      · simp only [factsL, pickF, Det, and_true] at hf
        (try simp only [putL, Act.put, List.setIfInBounds_toArray, List.set_cons_zero, List.set_cons_succ])
        simp only [hf]
        go_simp
        refine (HIN.out _ (bl2 hw hW)).mono ?_
        rintro _ w9 ⟨B, k, rfl, hs, -, -, -, hb9⟩
        exact ⟨_, rfl, hK.out _ _ hb9 ⟨B, k, rfl, hs⟩⟩
      refine And.intro ⟨[(9, 47), (7, 45), (4, 42), (1, 39)], by kernel_rfl, fun xs W hW hf K hK => opV_free rfl ?_⟩ ?_
      · simp only [factsL, pickF, Det, and_true] at hf
        (try simp only [putL, Act.put, List.setIfInBounds_toArray, List.set_cons_zero, List.set_cons_succ])
        obtain ⟨⟨B, k, e1, hs⟩, ⟨y2, e2, hy2, hr2⟩, ⟨y1, e3, hy1, hr1⟩, e4⟩ := hf
        simp only [e1, e2, e3, e4]
        go_simp
        refine (HBE.out _ y1 y2 B k hy1 hy2 hr1 hr2 hs).mono ?_
        rintro _ w9 ⟨rfl, hb9⟩
        exact ⟨_, rfl, hK.out _ _ hb9 rfl⟩
      refine And.intro ⟨[(10, 48)], by kernel_rfl, fun xs W hW hf K hK => opV_free rfl ?_⟩ ?_
      focus (have hs := hS W hW; (try simp only [factsL, pickF, Det, and_true] at hf); (try simp only [putL, Act.put, List.setIfInBounds_toArray, List.set_cons_zero, List.set_cons_succ]); (try simp only [hf]); go_simp; refine hK.out _ _ (Below.refl _ _) ?_; unfold Det; rfl)
      refine And.intro ⟨[(11, 37)], by kernel_rfl, fun xs W hW hf K hK => opV_free rfl ?_⟩ ?_
      focus (have hs := hS W hW; (try simp only [factsL, pickF, Det, and_true] at hf); (try simp only [putL, Act.put, List.setIfInBounds_toArray, List.set_cons_zero, List.set_cons_succ]); (try simp only [hf]); go_simp; refine hK.out _ _ (Below.refl _ _) ?_; unfold Det; rfl)
      refine And.intro ⟨[(11, 37)], by kernel_rfl, fun xs W hW hf => ⟨_, det_rfl, yields_free rfl (fun w => ?_)⟩⟩ ?_
      focus ((try simp only [factsL, pickF, Det, and_true] at hf); (try simp only [putL, Act.put, List.setIfInBounds_toArray, List.set_cons_zero, List.set_cons_succ]); (try simp only [hf]); go_simp)
      refine And.intro ⟨[], by kernel_rfl, fun xs W hW hf K hK => opV_free rfl ?_⟩ ?_
      · simp only [factsL, pickF, Det, and_true] at hf
        (try simp only [putL, Act.put, List.setIfInBounds_toArray, List.set_cons_zero, List.set_cons_succ])
        go_simp
        exact hK.out _ _ ((Below.refl _ _).alloc (Nat.le_refl _) _) ⟨_, rfl, Blk.new _ _ _, hW.size⟩
      refine And.intro ⟨[(13, 50)], by kernel_rfl, fun xs W hW hf => ⟨_, det_rfl, yields_free rfl (fun w => ?_)⟩⟩ ?_
      focus ((try simp only [factsL, pickF, Det, and_true] at hf); (try simp only [putL, Act.put, List.setIfInBounds_toArray, List.set_cons_zero, List.set_cons_succ]); (try simp only [hf]); go_simp)
      trivial
    case hst => exact ⟨det_stays, det_stays, det_stays, det_stays, OwnQ.stays, det_stays, det_stays, OwnQ.stays, det_stays, IntsQ.stays, det_stays, det_stays, det_stays, det_stays, newQ_stays, noF_stays, det_stays, trivial⟩
    case hend =>
      intro xs W hW hf
      simp only [factsA, Det, noF, Nat.zero_add, Nat.reduceAdd, and_true, true_and] at hf
      obtain ⟨f0, f1, f2, f3, f4, f5, f6, f7, f8, f9, f10, f11, f12, f13, ⟨b7, f14, g7, hz7⟩, f16⟩ := hf
      refine opV_free rfl ?_
      (simp only [putL, Act.put, upd, List.setIfInBounds_toArray, List.set_cons_zero, List.set_cons_succ])
      simp only [f0, f1, f2, f3, f5, f6, f8, f10, f11, f12, f13, f14, f16]
      have hB0 := g7.free 0; have hB1 := g7.free 1
      have hC0 := g7.cell 0; have hC1 := g7.cell 1
      simp at hC0 hC1
      have hl3 : b3 < V1.heap.size := g.lt
      have g := g.below hW hl3
      have hW3 := hW.size
      go_simp
      refine gen_w (fun W' => Blk W' b3 #[.int .i64 a.kind, .slice a.a a.rows.length a.c, .int .i64 a.after, .int .i64 b.kind, .slice b.a b.rows.length b.c, .int .i64 b.after, .int .i64 c.n, .int .i64 c.d] 29 ∧ Below w.heap.size w W' ∧ Blk W' b7 #[.int .i64 rn, .int .i64 rd] 27) ⟨(g.far ⟨b7, 0, none⟩ (by show b3 ≠ b7; omega) _).far ⟨b7, 1, none⟩ (by show b3 ≠ b7; omega) _, ((bl2 hw hW).setCell (p := ⟨b7, 0, none⟩) (by show w.heap.size ≤ b7; have := hw.size; omega) _).setCell (p := ⟨b7, 1, none⟩) (by show w.heap.size ≤ b7; have := hw.size; omega) _, by have := (g7.set 0 (.int .i64 rn)).set 1 (.int .i64 rd); simp at this; exact this⟩ ?_

      clear g7 hB0 hB1 hC0 hC1 g hW hS hW3 hw f0 f1 f2 f3 f4 f5 f6 f7 f8 f9 f10 f11 f12 f13 f14 f16
      rintro V2 ⟨g, hw, g7⟩
      have hl7 := g7.lt; have hl3 := g.lt
      obtain ⟨er, her⟩ : ∃ e, e = regsE [a.m, b.m] l := ⟨_, rfl⟩
      have HRG : Hid (∀ W, Below w.heap.size w W → ∀ p, Blk W p #[.int .i64 a.kind, .slice a.a a.rows.length a.c, .int .i64 a.after, .int .i64 b.kind, .slice b.a b.rows.length b.c, .int .i64 b.after] 25 → Calls Try.prog 17 #[.slice (some ⟨p, 0, none⟩) 2 2, .slice lA l.length lc] W fun e w' => e = .returned (.int .i64 er) ∧ Below W.heap.size W w') := Lib.hid fun W hW p hp => by
        rw [her]; exact rreg_any lA lc l (some ⟨p, 0, none⟩) 2 [a, b] W (by omega) (by simp) ((HL.out.below hW).more hW.size) (mds_two hp (HRAd.out W hW) (HRBd.out W hW))
      have HER := Lib.hid her
      clear her
      (have z0 := g.cell 0; have z1 := g.cell 1; have z2 := g.cell 2; have z3 := g.cell 3; have z4 := g.cell 4; have z5 := g.cell 5; have z6 := g.cell 6; have z7 := g.cell 7; simp at z0 z1 z2 z3 z4 z5 z6 z7)
      go_wp2_with (first | (go_at_call 17; refine (HRG.out _ (hw.alloc hw.size _) V2.heap.size (Blk.new _ _ _)).mono ?_; rintro _ w3 ⟨rfl, hb3⟩; refine Hid.out ?_) | fail)
      have hb3V : Below V2.heap.size V2 w3 := bl3 (Below.refl _ _) hb3
      have g := g.below hb3V hl3
      have g7 := g7.below hb3V hl7
      have hw := bl2 hw hb3V
      have hl3 := g.lt; have hl7 := g7.lt
      clear hb3 hb3V z0 z1 z2 z3 z4 z5 z6 z7
      (have z0 := g.cell 0; have z1 := g.cell 1; have z2 := g.cell 2; have z3 := g.cell 3; have z4 := g.cell 4; have z5 := g.cell 5; have z6 := g.cell 6; have z7 := g.cell 7; simp at z0 z1 z2 z3 z4 z5 z6 z7)
      refine Lib.hid ?_
      by_cases he : er = 0
      · have hz := regs_zero (m0 := a.m) (ms := [b.m]) (l := l) (by rw [← HER.out, he])
        have hma := hz.1 a.m (by simp)
        have hmb := hz.1 b.m (by simp)
        have hl4 := hz.2
        obtain ⟨rfl, rfl⟩ : kn = cmpM a.m b.m l ∧ ke = 0 := by
          have := HK.out
          unfold hcmpR at this
          rw [if_pos (by rw [← HER.out, he])] at this
          exact ⟨(Prod.mk.inj this).1, (Prod.mk.inj this).2⟩
        have HRC := Lib.hid (fun W (hW : Below w.heap.size w W) => rcompareM_any a b lA lc l W hma.1 hmb.1 hma.2.2 hmb.2.2 (by omega) (HRAd.out W hW) (HRBd.out W hW) ((HL.out.below hW).more hW.size))
        have HRBL := Lib.hid (fun (ok : OkC c) (hd : c.d ≤ 1000000000) W (hW : Below w.heap.size w W) => rbelief_any c a b l lA lc W ok hd hma.1 hmb.1 hma.2.2 hmb.2.2 (by omega) (HRAd.out W hW) (HRBd.out W hW) ((HL.out.below hW).more hW.size))
        obtain ⟨kn, hkn⟩ : ∃ q, q = cmpM a.m b.m l := ⟨_, rfl⟩
        rw [← hkn] at HRC ⊢
        have HE0 := Lib.hid he
        subst he
        clear hz hma hmb hkn
        go_upto_region 8 with (first | (go_at_call 18; refine (HRC.out _ hw).mono ?_; rintro _ w4 ⟨rfl, hb4⟩; have g := g.below hb4 hl3; have g7 := g7.below hb4 hl7; have hw := bl2 hw hb4; have hl3 := g.lt; have hl7 := g7.lt; clear z0 z1 z2 z3 z4 z5 z6 z7; (have z0 := g.cell 0; have z1 := g.cell 1; have z2 := g.cell 2; have z3 := g.cell 3; have z4 := g.cell 4; have z5 := g.cell 5; have z6 := g.cell 6; have z7 := g.cell 7; simp at z0 z1 z2 z3 z4 z5 z6 z7)) | fail)
        have x0 := g7.cell 0; have x1 := g7.cell 1
        simp at x0 x1
        have hcc : OkC c ↔ okC c = true := (okC_iff (x := c)).symm
        obtain ⟨ok, hok⟩ : ∃ q, q = okC c := ⟨_, rfl⟩
        have HOKC : Hid (okC ⟨c.n, c.d⟩ = ok) := hok.symm
        have hokE : okC ⟨c.n, c.d⟩ = ok := hok.symm
        by_cases hd : 1000000000 < c.d
        · have qd : decide (1000000000 < c.d) = true := by simp; exact hd
          cases ok with
          | false =>
            obtain ⟨rfl, rfl, rfl⟩ : rn = 0 ∧ rd = 0 ∧ re = 2 := by
              have := HRES.out
              unfold belR at this
              rw [if_pos hok.symm] at this
              exact ⟨(Prod.mk.inj this).1, (Prod.mk.inj (Prod.mk.inj this).2).1, (Prod.mk.inj (Prod.mk.inj this).2).2⟩
            clear hd hok hcc
            go_wp2_with (first | (go_at_call 19; refine (rchance9_any _ _ _).mono ?_; rintro _ w5 ⟨rfl, hb5⟩; have g := g.below hb5 hl3; have g7 := g7.below hb5 hl7; have hw := bl2 hw hb5; have hl3 := g.lt; have hl7 := g7.lt; clear z0 z1 z2 z3 z4 z5 z6 z7 x0 x1; (have z0 := g.cell 0; have z1 := g.cell 1; have z2 := g.cell 2; have z3 := g.cell 3; have z4 := g.cell 4; have z5 := g.cell 5; have z6 := g.cell 6; have z7 := g.cell 7; simp at z0 z1 z2 z3 z4 z5 z6 z7); have x0 := g7.cell 0; have x1 := g7.cell 1; simp at x0 x1) | (go_at_call 12; refine (known_any _).mono ?_; rintro _ w9 ⟨rfl, hb9⟩; have hw := bl2 hw hb9) | fail)
            refine bodyPost_ret (v := .bool true) (by simp [results, Try.results3, go_sem]) rfl ?_
            exact ⟨rfl, hw⟩
          | true =>
            obtain ⟨rfl, rfl, rfl⟩ : rn = 0 ∧ rd = 0 ∧ re = 3 := by
              have := HRES.out
              unfold belR at this
              rw [if_neg (by rw [← hok]; simp), if_pos hd] at this
              exact ⟨(Prod.mk.inj this).1, (Prod.mk.inj (Prod.mk.inj this).2).1, (Prod.mk.inj (Prod.mk.inj this).2).2⟩
            clear hd hok hcc
            go_wp2_with (first | (go_at_call 19; refine (rchance9_any _ _ _).mono ?_; rintro _ w5 ⟨rfl, hb5⟩; have g := g.below hb5 hl3; have g7 := g7.below hb5 hl7; have hw := bl2 hw hb5; have hl3 := g.lt; have hl7 := g7.lt; clear z0 z1 z2 z3 z4 z5 z6 z7 x0 x1; (have z0 := g.cell 0; have z1 := g.cell 1; have z2 := g.cell 2; have z3 := g.cell 3; have z4 := g.cell 4; have z5 := g.cell 5; have z6 := g.cell 6; have z7 := g.cell 7; simp at z0 z1 z2 z3 z4 z5 z6 z7); have x0 := g7.cell 0; have x1 := g7.cell 1; simp at x0 x1) | (go_at_call 12; refine (known_any _).mono ?_; rintro _ w9 ⟨rfl, hb9⟩; have hw := bl2 hw hb9) | fail)
            refine bodyPost_ret (v := .bool true) (by simp [results, Try.results3, go_sem]) rfl ?_
            exact ⟨rfl, hw⟩
        · have qd : decide (1000000000 < c.d) = false := by simp; omega
          cases ok with
          | false =>
            obtain ⟨rfl, rfl, rfl⟩ : rn = 0 ∧ rd = 0 ∧ re = 2 := by
              have := HRES.out
              unfold belR at this
              rw [if_pos hok.symm] at this
              exact ⟨(Prod.mk.inj this).1, (Prod.mk.inj (Prod.mk.inj this).2).1, (Prod.mk.inj (Prod.mk.inj this).2).2⟩
            clear hd hok hcc
            go_wp2_with (first | (go_at_call 19; refine (rchance9_any _ _ _).mono ?_; rintro _ w5 ⟨rfl, hb5⟩; have g := g.below hb5 hl3; have g7 := g7.below hb5 hl7; have hw := bl2 hw hb5; have hl3 := g.lt; have hl7 := g7.lt; clear z0 z1 z2 z3 z4 z5 z6 z7 x0 x1; (have z0 := g.cell 0; have z1 := g.cell 1; have z2 := g.cell 2; have z3 := g.cell 3; have z4 := g.cell 4; have z5 := g.cell 5; have z6 := g.cell 6; have z7 := g.cell 7; simp at z0 z1 z2 z3 z4 z5 z6 z7); have x0 := g7.cell 0; have x1 := g7.cell 1; simp at x0 x1) | (go_at_call 12; refine (known_any _).mono ?_; rintro _ w9 ⟨rfl, hb9⟩; have hw := bl2 hw hb9) | fail)
            refine bodyPost_ret (v := .bool true) (by simp [results, Try.results3, go_sem]) rfl ?_
            exact ⟨rfl, hw⟩
          | true =>
            have hb : (rn, rd, re) = belGo (twoL a.m b.m l) c := by
              have := HRES.out
              unfold belR at this
              rwa [if_neg (by rw [← hok]; simp), if_neg hd, if_pos HER.out.symm] at this
            have HRB2 := HRBL.out (hcc.2 hok.symm) (by omega)
            rw [← hb] at HRB2
            have HRB3 := Lib.hid HRB2
            clear hd hok hcc hb HRB2 HRBL
            go_upto_region 15 with (first | (go_at_call 19; refine (rchance9_any _ _ _).mono ?_; rintro _ w5 ⟨rfl, hb5⟩; have g := g.below hb5 hl3; have g7 := g7.below hb5 hl7; have hw := bl2 hw hb5; have hl3 := g.lt; have hl7 := g7.lt; clear z0 z1 z2 z3 z4 z5 z6 z7 x0 x1; (have z0 := g.cell 0; have z1 := g.cell 1; have z2 := g.cell 2; have z3 := g.cell 3; have z4 := g.cell 4; have z5 := g.cell 5; have z6 := g.cell 6; have z7 := g.cell 7; simp at z0 z1 z2 z3 z4 z5 z6 z7); have x0 := g7.cell 0; have x1 := g7.cell 1; simp at x0 x1) | (go_at_call 20; refine (HRB3.out _ hw).mono ?_; rintro _ w6 ⟨rfl, hb6⟩; have g := g.below hb6 hl3; have g7 := g7.below hb6 hl7; have hw := bl2 hw hb6; have hl3 := g.lt; have hl7 := g7.lt; clear z0 z1 z2 z3 z4 z5 z6 z7 x0 x1; (have z0 := g.cell 0; have z1 := g.cell 1; have z2 := g.cell 2; have z3 := g.cell 3; have z4 := g.cell 4; have z5 := g.cell 5; have z6 := g.cell 6; have z7 := g.cell 7; simp at z0 z1 z2 z3 z4 z5 z6 z7); have x0 := g7.cell 0; have x1 := g7.cell 1; simp at x0 x1) | fail)
            obtain ⟨b10, hb10⟩ : ∃ q, q = w6.heap.size := ⟨_, rfl⟩
            rw [← hb10]
            refine gen_w (fun W => Blk W b7 #[.int .i64 rn, .int .i64 rd] 27 ∧ Blk W b10 #[.int .i64 rn, .int .i64 rd] 27 ∧ Below w.heap.size w W) ⟨g7.alloc _, Blk.at_ hb10, by (repeat (first | exact Below.refl _ _ | assumption | (refine Below.alloc ?_ (by first | omega | (simp; omega) | (simp; done)) _) | (refine Below.setCell ?_ (by first | omega | (simp; omega) | (simp; done)) _) | (refine Below.drew ?_) | (refine belowN ?_ _) | (refine Below.trans ?_ (Below.mono ‹Below _ _ _› (by first | omega | (simp; omega) | (simp; done))))))⟩ ?_
            clear g g7 hw hl3 hl7 z0 z1 z2 z3 z4 z5 z6 z7 x0 x1 hb10
            rintro V7 ⟨g7, g9, hw⟩
            have x0 := g7.cell 0; have x1 := g7.cell 1; have y0 := g9.cell 0; have y1 := g9.cell 1
            simp at x0 x1 y0 y1
            go_wp2_with (first | (go_at_call 12; refine (known_any _).mono ?_; rintro _ w9 ⟨rfl, hb9⟩; have hw := bl2 hw hb9) | fail)
            refine bodyPost_ret (v := .bool true) (by simp [results, Try.results3, go_sem]) rfl ?_
            exact ⟨rfl, hw⟩
      · obtain ⟨rfl, rfl⟩ : kn = 0 ∧ ke = er := by
          have := HK.out
          unfold hcmpR at this
          rw [if_neg (by rw [← HER.out]; exact he), ← HER.out] at this
          exact ⟨(Prod.mk.inj this).1, (Prod.mk.inj this).2⟩
        have HE0 := Lib.hid he
        have q5 : (ke != 0) = true := by simp; exact he
        have q6 : (ke == 0) = false := by simp; exact he
        have HRBL : Hid True := Lib.hid trivial
        clear he
        go_upto_region 8 with fail
        have x0 := g7.cell 0; have x1 := g7.cell 1
        simp at x0 x1
        have hcc : OkC c ↔ okC c = true := (okC_iff (x := c)).symm
        obtain ⟨ok, hok⟩ : ∃ q, q = okC c := ⟨_, rfl⟩
        have HOKC : Hid (okC ⟨c.n, c.d⟩ = ok) := hok.symm
        have hokE : okC ⟨c.n, c.d⟩ = ok := hok.symm
        by_cases hd : 1000000000 < c.d
        · have qd : decide (1000000000 < c.d) = true := by simp; exact hd
          cases ok with
          | false =>
            obtain ⟨rfl, rfl, rfl⟩ : rn = 0 ∧ rd = 0 ∧ re = 2 := by
              have := HRES.out
              unfold belR at this
              rw [if_pos hok.symm] at this
              exact ⟨(Prod.mk.inj this).1, (Prod.mk.inj (Prod.mk.inj this).2).1, (Prod.mk.inj (Prod.mk.inj this).2).2⟩
            clear hd hok hcc
            go_wp2_with (first | (go_at_call 19; refine (rchance9_any _ _ _).mono ?_; rintro _ w5 ⟨rfl, hb5⟩; have g := g.below hb5 hl3; have g7 := g7.below hb5 hl7; have hw := bl2 hw hb5; have hl3 := g.lt; have hl7 := g7.lt; clear z0 z1 z2 z3 z4 z5 z6 z7 x0 x1; (have z0 := g.cell 0; have z1 := g.cell 1; have z2 := g.cell 2; have z3 := g.cell 3; have z4 := g.cell 4; have z5 := g.cell 5; have z6 := g.cell 6; have z7 := g.cell 7; simp at z0 z1 z2 z3 z4 z5 z6 z7); have x0 := g7.cell 0; have x1 := g7.cell 1; simp at x0 x1) | (go_at_call 12; refine (known_any _).mono ?_; rintro _ w9 ⟨rfl, hb9⟩; have hw := bl2 hw hb9) | fail)
            refine bodyPost_ret (v := .bool true) (by simp [results, Try.results3, go_sem]) rfl ?_
            exact ⟨rfl, hw⟩
          | true =>
            obtain ⟨rfl, rfl, rfl⟩ : rn = 0 ∧ rd = 0 ∧ re = 3 := by
              have := HRES.out
              unfold belR at this
              rw [if_neg (by rw [← hok]; simp), if_pos hd] at this
              exact ⟨(Prod.mk.inj this).1, (Prod.mk.inj (Prod.mk.inj this).2).1, (Prod.mk.inj (Prod.mk.inj this).2).2⟩
            clear hd hok hcc
            go_wp2_with (first | (go_at_call 19; refine (rchance9_any _ _ _).mono ?_; rintro _ w5 ⟨rfl, hb5⟩; have g := g.below hb5 hl3; have g7 := g7.below hb5 hl7; have hw := bl2 hw hb5; have hl3 := g.lt; have hl7 := g7.lt; clear z0 z1 z2 z3 z4 z5 z6 z7 x0 x1; (have z0 := g.cell 0; have z1 := g.cell 1; have z2 := g.cell 2; have z3 := g.cell 3; have z4 := g.cell 4; have z5 := g.cell 5; have z6 := g.cell 6; have z7 := g.cell 7; simp at z0 z1 z2 z3 z4 z5 z6 z7); have x0 := g7.cell 0; have x1 := g7.cell 1; simp at x0 x1) | (go_at_call 12; refine (known_any _).mono ?_; rintro _ w9 ⟨rfl, hb9⟩; have hw := bl2 hw hb9) | fail)
            refine bodyPost_ret (v := .bool true) (by simp [results, Try.results3, go_sem]) rfl ?_
            exact ⟨rfl, hw⟩
        · have qd : decide (1000000000 < c.d) = false := by simp; omega
          cases ok with
          | false =>
            obtain ⟨rfl, rfl, rfl⟩ : rn = 0 ∧ rd = 0 ∧ re = 2 := by
              have := HRES.out
              unfold belR at this
              rw [if_pos hok.symm] at this
              exact ⟨(Prod.mk.inj this).1, (Prod.mk.inj (Prod.mk.inj this).2).1, (Prod.mk.inj (Prod.mk.inj this).2).2⟩
            clear hd hok hcc
            go_wp2_with (first | (go_at_call 19; refine (rchance9_any _ _ _).mono ?_; rintro _ w5 ⟨rfl, hb5⟩; have g := g.below hb5 hl3; have g7 := g7.below hb5 hl7; have hw := bl2 hw hb5; have hl3 := g.lt; have hl7 := g7.lt; clear z0 z1 z2 z3 z4 z5 z6 z7 x0 x1; (have z0 := g.cell 0; have z1 := g.cell 1; have z2 := g.cell 2; have z3 := g.cell 3; have z4 := g.cell 4; have z5 := g.cell 5; have z6 := g.cell 6; have z7 := g.cell 7; simp at z0 z1 z2 z3 z4 z5 z6 z7); have x0 := g7.cell 0; have x1 := g7.cell 1; simp at x0 x1) | (go_at_call 12; refine (known_any _).mono ?_; rintro _ w9 ⟨rfl, hb9⟩; have hw := bl2 hw hb9) | fail)
            refine bodyPost_ret (v := .bool true) (by simp [results, Try.results3, go_sem]) rfl ?_
            exact ⟨rfl, hw⟩
          | true =>
            obtain ⟨rfl, rfl, rfl⟩ : rn = 0 ∧ rd = 0 ∧ re = ke := by
              have := HRES.out
              unfold belR at this
              rw [if_neg (by rw [← hok]; simp), if_neg hd, if_neg (by rw [← HER.out]; exact HE0.out), ← HER.out] at this
              exact ⟨(Prod.mk.inj this).1, (Prod.mk.inj (Prod.mk.inj this).2).1, (Prod.mk.inj (Prod.mk.inj this).2).2⟩
            clear hd hok hcc
            go_wp2_with (first | (go_at_call 19; refine (rchance9_any _ _ _).mono ?_; rintro _ w5 ⟨rfl, hb5⟩; have g := g.below hb5 hl3; have g7 := g7.below hb5 hl7; have hw := bl2 hw hb5; have hl3 := g.lt; have hl7 := g7.lt; clear z0 z1 z2 z3 z4 z5 z6 z7 x0 x1; (have z0 := g.cell 0; have z1 := g.cell 1; have z2 := g.cell 2; have z3 := g.cell 3; have z4 := g.cell 4; have z5 := g.cell 5; have z6 := g.cell 6; have z7 := g.cell 7; simp at z0 z1 z2 z3 z4 z5 z6 z7); have x0 := g7.cell 0; have x1 := g7.cell 1; simp at x0 x1) | (go_at_call 12; refine (known_any _).mono ?_; rintro _ w9 ⟨rfl, hb9⟩; have hw := bl2 hw hb9) | fail)
            refine bodyPost_ret (v := .bool true) (by simp [results, Try.results3, go_sem]) rfl ?_
            exact ⟨rfl, hw⟩
end Go.Proofs.Ytiikkcifdhcejaa

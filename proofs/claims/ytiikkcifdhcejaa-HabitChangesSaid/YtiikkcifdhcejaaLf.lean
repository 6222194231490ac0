/- habit: the law HabitChanges. -/
import Derived.Test.YtiikkcifdhcejaaUk
import Derived.Test.YtiikkcifdhcejaaWs
import Derived.Test.YtiikkcifdhcejaaZ32Uh
namespace Go.Proofs.Ytiikkcifdhcejaa
open Go.RowKit

/-- a value that is a copy of a model, of a list -/
def OwnC (m : HMd) (q : Value) (W : World) : Prop := ∃ y : Md, q = .agg #[.int .i64 y.kind, .slice y.a y.rows.length y.c, .int .i64 y.after] ∧ y.m = m ∧ y.reads W W.heap.size
theorem OwnC.stays {m : HMd} : Stays (OwnC m) := fun _ _ _ ⟨y, h1, h2, h3⟩ hb => ⟨y, h1, h2, (h3.below hb).more hb.size⟩
def IntsC (l : List Int) (n : Nat) (q : Value) (W : World) : Prop := ∃ B k, q = .slice B n k ∧ Sl intCell 1 W W.heap.size B l ∧ n ≤ k
theorem IntsC.stays {l : List Int} {n : Nat} : Stays (IntsC l n) := fun _ _ _ ⟨B, k, h1, h2, h3⟩ hb => ⟨B, k, h1, (h2.below hb).more hb.size, h3⟩
set_option maxRecDepth 100000 in
set_option maxHeartbeats 4000000 in
theorem lwchg_any (a b : Md) (l : List Int) (lA : Option Addr) (lc : Nat) (w : World) (ha : Lists w w.heap.size a.a a.rows) (hb : Lists w w.heap.size b.a b.rows) (hna : ∀ r ∈ a.rows, r.a = none → r.c = 0) (hnb : ∀ r ∈ b.rows, r.a = none → r.c = 0)
    (hl : Sl intCell 1 w w.heap.size lA l) (hlA : lA = none → lc = 0) (hlc : l.length ≤ lc) :
    Calls Try.prog 4 #[.agg #[.int .i64 a.kind, .slice a.a a.rows.length a.c, .int .i64 a.after], .agg #[.int .i64 b.kind, .slice b.a b.rows.length b.c, .int .i64 b.after], .slice lA l.length lc] w fun e w' => e = .returned (.bool true) ∧ Below w.heap.size w w' := by
  obtain ⟨la, hla⟩ : ∃ q, q = largeB a.m := ⟨_, rfl⟩
  obtain ⟨lb, hlb⟩ : ∃ q, q = largeB b.m := ⟨_, rfl⟩
  have HLA : Hid (∀ W, Below w.heap.size w W → Calls Try.prog 11 #[.agg #[.int .i64 a.kind, .slice a.a a.rows.length a.c, .int .i64 a.after]] W fun e w' => e = .returned (.bool la) ∧ Below W.heap.size W w') := Lib.hid fun W hW => by rw [hla]; exact llarge_any a W ((ha.below hW).more hW.size)
  have HLB : Hid (∀ W, Below w.heap.size w W → Calls Try.prog 11 #[.agg #[.int .i64 b.kind, .slice b.a b.rows.length b.c, .int .i64 b.after]] W fun e w' => e = .returned (.bool lb) ∧ Below W.heap.size W w') := Lib.hid fun W hW => by rw [hlb]; exact llarge_any b W ((hb.below hW).more hW.size)
  have HA := Lib.hid ha; have HB := Lib.hid hb; have HNA := Lib.hid hna; have HNB := Lib.hid hnb; have HL := Lib.hid hl; have HLN := Lib.hid hlA; have HLL := Lib.hid hla; have HLM := Lib.hid hlb
  clear ha hb hna hnb hl hlA hla hlb
  go_enter Try.func4, Try.ntmps4
  go_upto_region 1 with fail
  obtain ⟨b3, hb3⟩ : ∃ q, q = w.heap.size := ⟨_, rfl⟩
  rw [← hb3]
  refine gen_w (fun W => Blk W b3 #[.int .i64 a.kind, .slice a.a a.rows.length a.c, .int .i64 a.after] 25 ∧ Blk W (b3 + 1) #[.int .i64 b.kind, .slice b.a b.rows.length b.c, .int .i64 b.after] 25 ∧ Below w.heap.size w W) ⟨(Blk.at_ hb3).alloc _, Blk.at_ (by simp [hb3]), by (repeat (first | exact Below.refl _ _ | assumption | (refine Below.alloc ?_ (by first | omega | (simp; omega) | (simp; done)) _) | (refine Below.setCell ?_ (by first | omega | (simp; omega) | (simp; done)) _) | (refine Below.drew ?_) | (refine belowN ?_ _) | (refine Below.trans ?_ (Below.mono ‹Below _ _ _› (by first | omega | (simp; omega) | (simp; done))))))⟩ ?_
  rintro V ⟨g, g2, hw⟩
  have hwb : w.heap.size ≤ b3 := by omega
  clear hb3
  (have z0 := g.cell 0; have z1 := g.cell 1; have z2 := g.cell 2; have z3 := g2.cell 0; have z4 := g2.cell 1; have z5 := g2.cell 2; simp at z0 z1 z2 z3 z4 z5)
  cases la with
  | true =>
    go_wp2_with (first | (go_at_call 11; (with_reducible refine (HLA.out _ hw).mono ?_); rintro _ w1 ⟨rfl, hb1⟩; have g := g.below hb1 g.lt; have g2 := g2.below hb1 g2.lt; have hw := bl2 hw hb1; clear z0 z1 z2 z3 z4 z5; (have z0 := g.cell 0; have z1 := g.cell 1; have z2 := g.cell 2; have z3 := g2.cell 0; have z4 := g2.cell 1; have z5 := g2.cell 2; simp at z0 z1 z2 z3 z4 z5)) | (go_at_call 12; refine (known_any _).mono ?_; rintro _ w9 ⟨rfl, hb9⟩; have hw := bl2 hw hb9) | fail)
    go_ret
    exact ⟨rfl, hw⟩
  | false =>
  cases lb with
  | true =>
    go_wp2_with (first | (go_at_call 11; (with_reducible refine (HLA.out _ hw).mono ?_); rintro _ w1 ⟨rfl, hb1⟩; have g := g.below hb1 g.lt; have g2 := g2.below hb1 g2.lt; have hw := bl2 hw hb1; clear z0 z1 z2 z3 z4 z5; (have z0 := g.cell 0; have z1 := g.cell 1; have z2 := g.cell 2; have z3 := g2.cell 0; have z4 := g2.cell 1; have z5 := g2.cell 2; simp at z0 z1 z2 z3 z4 z5)) | (go_at_call 11; (with_reducible refine (HLB.out _ hw).mono ?_); rintro _ w2 ⟨rfl, hb2⟩; have g := g.below hb2 g.lt; have g2 := g2.below hb2 g2.lt; have hw := bl2 hw hb2; clear z0 z1 z2 z3 z4 z5; (have z0 := g.cell 0; have z1 := g.cell 1; have z2 := g.cell 2; have z3 := g2.cell 0; have z4 := g2.cell 1; have z5 := g2.cell 2; simp at z0 z1 z2 z3 z4 z5)) | (go_at_call 12; refine (known_any _).mono ?_; rintro _ w9 ⟨rfl, hb9⟩; have hw := bl2 hw hb9) | fail)
    go_ret
    exact ⟨rfl, hw⟩
  | false =>
  by_cases h30 : 30 < l.length ∧ l.length ≤ 400
  · have hQ : decide ((30 : Int) < (l.length : Int)) = true := decide_eq_true (by omega)
    have hQ2 : decide ((l.length : Int) ≤ (400 : Int)) = true := decide_eq_true (by omega)
    go_wp2_with (first | (go_at_call 11; (with_reducible refine (HLA.out _ hw).mono ?_); rintro _ w1 ⟨rfl, hb1⟩; have g := g.below hb1 g.lt; have g2 := g2.below hb1 g2.lt; have hw := bl2 hw hb1; clear z0 z1 z2 z3 z4 z5; (have z0 := g.cell 0; have z1 := g.cell 1; have z2 := g.cell 2; have z3 := g2.cell 0; have z4 := g2.cell 1; have z5 := g2.cell 2; simp at z0 z1 z2 z3 z4 z5)) | (go_at_call 11; (with_reducible refine (HLB.out _ hw).mono ?_); rintro _ w2 ⟨rfl, hb2⟩; have g := g.below hb2 g.lt; have g2 := g2.below hb2 g2.lt; have hw := bl2 hw hb2; clear z0 z1 z2 z3 z4 z5; (have z0 := g.cell 0; have z1 := g.cell 1; have z2 := g.cell 2; have z3 := g2.cell 0; have z4 := g2.cell 1; have z5 := g2.cell 2; simp at z0 z1 z2 z3 z4 z5)) | (go_at_call 12; refine (known_any _).mono ?_; rintro _ w9 ⟨rfl, hb9⟩; have hw := bl2 hw hb9) | fail)
    go_ret
    exact ⟨rfl, hw⟩
  by_cases h410 : 410 < l.length
  · have hQ : decide ((30 : Int) < (l.length : Int)) = true := decide_eq_true (by omega)
    have hQ2 : decide ((l.length : Int) ≤ (400 : Int)) = false := decide_eq_false (by omega)
    have hQ3 : decide ((410 : Int) < (l.length : Int)) = true := decide_eq_true (by omega)
    go_wp2_with (first | (go_at_call 11; (with_reducible refine (HLA.out _ hw).mono ?_); rintro _ w1 ⟨rfl, hb1⟩; have g := g.below hb1 g.lt; have g2 := g2.below hb1 g2.lt; have hw := bl2 hw hb1; clear z0 z1 z2 z3 z4 z5; (have z0 := g.cell 0; have z1 := g.cell 1; have z2 := g.cell 2; have z3 := g2.cell 0; have z4 := g2.cell 1; have z5 := g2.cell 2; simp at z0 z1 z2 z3 z4 z5)) | (go_at_call 11; (with_reducible refine (HLB.out _ hw).mono ?_); rintro _ w2 ⟨rfl, hb2⟩; have g := g.below hb2 g.lt; have g2 := g2.below hb2 g2.lt; have hw := bl2 hw hb2; clear z0 z1 z2 z3 z4 z5; (have z0 := g.cell 0; have z1 := g.cell 1; have z2 := g.cell 2; have z3 := g2.cell 0; have z4 := g2.cell 1; have z5 := g2.cell 2; simp at z0 z1 z2 z3 z4 z5)) | (go_at_call 12; refine (known_any _).mono ?_; rintro _ w9 ⟨rfl, hb9⟩; have hw := bl2 hw hb9) | fail)
    go_ret
    exact ⟨rfl, hw⟩
  have hQ3 : decide ((410 : Int) < (l.length : Int)) = false := decide_eq_false (by omega)
  have hbl : Below w.heap.size w w := Below.refl _ w
  have HRA : Hid (a.rows.length ≤ 1000000 ∧ ∀ r ∈ a.rows, r.l.length ≤ 1000000) := Lib.hid (by
    have h9 := HLL.out.symm
    unfold largeB Md.m at h9
    simp only [Bool.or_eq_false_iff, decide_eq_false_iff_not, List.any_map, List.any_eq_false, List.length_map] at h9
    exact ⟨by omega, fun r hr => by have := h9.2 r hr; simp at this; omega⟩)
  have HRB : Hid (b.rows.length ≤ 1000000 ∧ ∀ r ∈ b.rows, r.l.length ≤ 1000000) := Lib.hid (by
    have h9 := HLM.out.symm
    unfold largeB Md.m at h9
    simp only [Bool.or_eq_false_iff, decide_eq_false_iff_not, List.any_map, List.any_eq_false, List.length_map] at h9
    exact ⟨by omega, fun r hr => by have := h9.2 r hr; simp at this; omega⟩)
  have HOA := Lib.hid (fun W (hW : Below w.heap.size w W) => lown_any a W ⟨(HA.out.below hW).more hW.size, HRA.out.1, HRA.out.2⟩ HNA.out)
  have HOB := Lib.hid (fun W (hW : Below w.heap.size w W) => lown_any b W ⟨(HB.out.below hW).more hW.size, HRB.out.1, HRB.out.2⟩ HNB.out)
  have HIN := Lib.hid (fun W (hW : Below w.heap.size w W) => lints_any lA lc l.length l W rfl (by omega) HLN.out ((HL.out.below hW).more hW.size))
  have HRAd : Hid (∀ W, Below w.heap.size w W → a.reads W W.heap.size) := Lib.hid fun W hW => ⟨(HA.out.below hW).more hW.size, HRA.out.1, HRA.out.2⟩
  have HRBd : Hid (∀ W, Below w.heap.size w W → b.reads W W.heap.size) := Lib.hid fun W hW => ⟨(HB.out.below hW).more hW.size, HRB.out.1, HRB.out.2⟩
  obtain ⟨⟨kn, ke⟩, hk⟩ : ∃ q : Int × Int, q = chgR a.m b.m l := ⟨_, rfl⟩
  have HCM : Hid (∀ W (y1 y2 : Md) B k, y1.m = a.m → y2.m = b.m → y1.reads W W.heap.size → y2.reads W W.heap.size → Sl intCell 1 W W.heap.size B l → l.length ≤ k → Calls Try.prog 21 #[.agg #[.int .i64 y1.kind, .slice y1.a y1.rows.length y1.c, .int .i64 y1.after], .agg #[.int .i64 y2.kind, .slice y2.a y2.rows.length y2.c, .int .i64 y2.after], .slice B l.length k] W fun e w' => e = .returned (.tuple #[.int .i64 kn, .int .i64 ke]) ∧ Below W.heap.size W w') := Lib.hid fun W y1 y2 B k e1 e2 e3 e4 e5 e6 => by
    have := chgF_any y1 y2 l B k W (by omega) e6 e3 e4 e5
    rw [e1, e2, ← hk] at this
    exact this
  have HK := Lib.hid hk
  clear hk hbl
  rcases (by omega : 400 < l.length ∨ l.length ≤ 30) with h400 | h400
  · have hQ : decide ((30 : Int) < (l.length : Int)) = true := decide_eq_true (by omega)
    have hQ2 : decide ((l.length : Int) ≤ (400 : Int)) = false := decide_eq_false (by omega)
    go_upto_region 3 with (first | (go_at_call 11; (with_reducible refine (HLA.out _ hw).mono ?_); rintro _ w1 ⟨rfl, hb1⟩; have g := g.below hb1 g.lt; have g2 := g2.below hb1 g2.lt; have hw := bl2 hw hb1; clear z0 z1 z2 z3 z4 z5; (have z0 := g.cell 0; have z1 := g.cell 1; have z2 := g.cell 2; have z3 := g2.cell 0; have z4 := g2.cell 1; have z5 := g2.cell 2; simp at z0 z1 z2 z3 z4 z5)) | (go_at_call 11; (with_reducible refine (HLB.out _ hw).mono ?_); rintro _ w2 ⟨rfl, hb2⟩; have g := g.below hb2 g.lt; have g2 := g2.below hb2 g2.lt; have hw := bl2 hw hb2; clear z0 z1 z2 z3 z4 z5; (have z0 := g.cell 0; have z1 := g.cell 1; have z2 := g.cell 2; have z3 := g2.cell 0; have z4 := g2.cell 1; have z5 := g2.cell 2; simp at z0 z1 z2 z3 z4 z5)) | fail)
    clear z0 z1 z2 z3 z4 z5
    rename World => V1x
    refine gen_w (fun W => Blk W b3 #[.int .i64 a.kind, .slice a.a a.rows.length a.c, .int .i64 a.after] 25 ∧ Blk W (b3 + 1) #[.int .i64 b.kind, .slice b.a b.rows.length b.c, .int .i64 b.after] 25 ∧ Below w.heap.size w W) ⟨g, g2, hw⟩ ?_
    clear g g2 hw
    rintro V2 ⟨g, g2, hw⟩
    have hl3 : b3 < V2.heap.size := g.lt
    have hl4 : b3 + 1 < V2.heap.size := g2.lt
    have hS : ∀ W, Below V2.heap.size V2 W → W.cell? ⟨b3, 0, none⟩ = some (.int .i64 a.kind) ∧ W.cell? ⟨b3, 1, none⟩ = some (.slice a.a a.rows.length a.c) ∧ W.cell? ⟨b3, 2, none⟩ = some (.int .i64 a.after) ∧ W.cell? ⟨b3 + 1, 0, none⟩ = some (.int .i64 b.kind) ∧ W.cell? ⟨b3 + 1, 1, none⟩ = some (.slice b.a b.rows.length b.c) ∧ W.cell? ⟨b3 + 1, 2, none⟩ = some (.int .i64 b.after) := fun W hW => by
      have g := g.below hW g.lt
      have g2 := g2.below hW g2.lt
      (have z0 := g.cell 0; have z1 := g.cell 1; have z2 := g.cell 2; have z3 := g2.cell 0; have z4 := g2.cell 1; have z5 := g2.cell 2; simp at z0 z1 z2 z3 z4 z5)
      exact ⟨z0, z1, z2, z3, z4, z5⟩
    refine' wp_region_planE [.eff, .eff, .eff, .eff, .eff, .eff, .eff, .eff, .eff, .eff, .eff, .eff] [Det _, OwnC a.m, Det _, OwnC b.m, Det _, IntsC l l.length, Det (.tuple #[.int .i64 kn, .int .i64 ke]), Det (.tuple #[.int .i64 kn, .int .i64 ke]), Det (.int .i64 kn), Det (.int .i64 ke), Det _, Det _] [(11, 8), (10, 7), (9, 42), (8, 41), (7, 33), (6, 40), (5, 39), (4, 38), (3, 37), (2, 36), (1, 35), (0, 34)] (by kernel_rfl) (by kernel_rfl) (by kernel_rfl) (by kernel_rfl) (by kernel_rfl) (by kernel_rfl) (by kernel_rfl) ?hp2 ?hend2 ?hst2
    case hp2 =>
      refine And.intro ⟨[], by kernel_rfl, fun xs W hW hf K hK => opV_free rfl ?_⟩ ?_
      focus (have hs := hS W hW; (try simp only [factsL, pickF, Det, and_true] at hf); (try simp only [putL, Act.put, List.setIfInBounds_toArray, List.set_cons_zero, List.set_cons_succ]); (try simp only [hf]); go_simp; refine hK.out _ _ (Below.refl _ _) ?_; unfold Det; rfl)
      refine And.intro ⟨[(0, 34)], by kernel_rfl, fun xs W hW hf K hK => opV_free rfl ?_⟩ ?_
      · simp only [factsL, pickF, Det, and_true] at hf
        (try simp only [putL, Act.put, List.setIfInBounds_toArray, List.set_cons_zero, List.set_cons_succ])
        simp only [hf]
        go_simp
        refine (HOA.out _ (bl2 hw hW)).mono ?_
        rintro _ w9 ⟨y, rfl, hy, hr, hb9⟩
        exact ⟨_, rfl, hK.out _ _ hb9 ⟨y, rfl, hy, hr⟩⟩
      refine And.intro ⟨[], by kernel_rfl, fun xs W hW hf K hK => opV_free rfl ?_⟩ ?_
      focus (have hs := hS W hW; (try simp only [factsL, pickF, Det, and_true] at hf); (try simp only [putL, Act.put, List.setIfInBounds_toArray, List.set_cons_zero, List.set_cons_succ]); (try simp only [hf]); go_simp; refine hK.out _ _ (Below.refl _ _) ?_; unfold Det; rfl)
      refine And.intro ⟨[(2, 36)], by kernel_rfl, fun xs W hW hf K hK => opV_free rfl ?_⟩ ?_
      · simp only [factsL, pickF, Det, and_true] at hf
        (try simp only [putL, Act.put, List.setIfInBounds_toArray, List.set_cons_zero, List.set_cons_succ])
        simp only [hf]
        go_simp
        refine (HOB.out _ (bl2 hw hW)).mono ?_
        rintro _ w9 ⟨y, rfl, hy, hr, hb9⟩
        exact ⟨_, rfl, hK.out _ _ hb9 ⟨y, rfl, hy, hr⟩⟩
      refine And.intro ⟨[], by kernel_rfl, fun xs W hW hf K hK => opV_free rfl ?_⟩ ?_
      focus (have hs := hS W hW; (try simp only [factsL, pickF, Det, and_true] at hf); (try simp only [putL, Act.put, List.setIfInBounds_toArray, List.set_cons_zero, List.set_cons_succ]); (try simp only [hf]); go_simp; refine hK.out _ _ (Below.refl _ _) ?_; unfold Det; rfl)
      refine And.intro ⟨[(4, 38)], by kernel_rfl, fun xs W hW hf K hK => opV_free rfl ?_⟩ ?_
      · simp only [factsL, pickF, Det, and_true] at hf
        (try simp only [putL, Act.put, List.setIfInBounds_toArray, List.set_cons_zero, List.set_cons_succ])
        simp only [hf]
        go_simp
        refine (HIN.out _ (bl2 hw hW)).mono ?_
        rintro _ w9 ⟨B, k, rfl, hs, -, hk1, -, hb9⟩
        exact ⟨_, rfl, hK.out _ _ hb9 ⟨B, k, rfl, hs, hk1⟩⟩
      refine And.intro ⟨[(5, 39), (3, 37), (1, 35)], by kernel_rfl, fun xs W hW hf K hK => opV_free rfl ?_⟩ ?_
      · simp only [factsL, pickF, Det, and_true] at hf
        (try simp only [putL, Act.put, List.setIfInBounds_toArray, List.set_cons_zero, List.set_cons_succ])
        obtain ⟨⟨B, k, e1, hs, hk1⟩, ⟨y2, e2, hy2, hr2⟩, ⟨y1, e3, hy1, hr1⟩⟩ := hf
        simp only [e1, e2, e3]
        go_simp
        refine (HCM.out _ y1 y2 B k hy1 hy2 hr1 hr2 hs hk1).mono ?_
        rintro _ w9 ⟨rfl, hb9⟩
        exact ⟨_, rfl, hK.out _ _ hb9 rfl⟩
      refine And.intro ⟨[(6, 40)], by kernel_rfl, fun xs W hW hf K hK => opV_free rfl ?_⟩ ?_
      focus (have hs := hS W hW; (try simp only [factsL, pickF, Det, and_true] at hf); (try simp only [putL, Act.put, List.setIfInBounds_toArray, List.set_cons_zero, List.set_cons_succ]); (try simp only [hf]); go_simp; refine hK.out _ _ (Below.refl _ _) ?_; unfold Det; rfl)
      refine And.intro ⟨[(7, 33)], by kernel_rfl, fun xs W hW hf K hK => opV_free rfl ?_⟩ ?_
      focus (have hs := hS W hW; (try simp only [factsL, pickF, Det, and_true] at hf); (try simp only [putL, Act.put, List.setIfInBounds_toArray, List.set_cons_zero, List.set_cons_succ]); (try simp only [hf]); go_simp; refine hK.out _ _ (Below.refl _ _) ?_; unfold Det; rfl)
      refine And.intro ⟨[(7, 33)], by kernel_rfl, fun xs W hW hf K hK => opV_free rfl ?_⟩ ?_
      focus (have hs := hS W hW; (try simp only [factsL, pickF, Det, and_true] at hf); (try simp only [putL, Act.put, List.setIfInBounds_toArray, List.set_cons_zero, List.set_cons_succ]); (try simp only [hf]); go_simp; refine hK.out _ _ (Below.refl _ _) ?_; unfold Det; rfl)
      refine And.intro ⟨[(8, 41)], by kernel_rfl, fun xs W hW hf K hK => opV_free rfl ?_⟩ ?_
      focus (have hs := hS W hW; (try simp only [factsL, pickF, Det, and_true] at hf); (try simp only [putL, Act.put, List.setIfInBounds_toArray, List.set_cons_zero, List.set_cons_succ]); (try simp only [hf]); go_simp; refine hK.out _ _ (Below.refl _ _) ?_; unfold Det; rfl)
      refine And.intro ⟨[(9, 42)], by kernel_rfl, fun xs W hW hf K hK => opV_free rfl ?_⟩ ?_
      focus (have hs := hS W hW; (try simp only [factsL, pickF, Det, and_true] at hf); (try simp only [putL, Act.put, List.setIfInBounds_toArray, List.set_cons_zero, List.set_cons_succ]); (try simp only [hf]); go_simp; refine hK.out _ _ (Below.refl _ _) ?_; unfold Det; rfl)
      trivial
    case hst2 => exact ⟨det_stays, OwnC.stays, det_stays, OwnC.stays, det_stays, IntsC.stays, det_stays, det_stays, det_stays, det_stays, det_stays, det_stays, trivial⟩
    case hend2 =>
      intro xs W hW hf
      simp only [factsA, Det, noF, Nat.zero_add, Nat.reduceAdd, and_true, true_and] at hf
      obtain ⟨f0, f1, f2, f3, f4, f5, f6, f7, f8, f9, f10, f11⟩ := hf
      (simp only [putL, Act.put, upd, List.setIfInBounds_toArray, List.set_cons_zero, List.set_cons_succ])
      simp only [f0, f2, f4, f6, f7, f8, f9, f10, f11]
      refine gen_w (fun W' => Blk W' b3 #[.int .i64 a.kind, .slice a.a a.rows.length a.c, .int .i64 a.after] 25 ∧ Blk W' (b3 + 1) #[.int .i64 b.kind, .slice b.a b.rows.length b.c, .int .i64 b.after] 25 ∧ Below w.heap.size w W') ⟨g.below hW hl3, g2.below hW hl4, bl2 hw hW⟩ ?_
      clear g g2 hw hW hS f0 f1 f2 f3 f4 f5 f6 f7 f8 f9 f10 f11 hl3 hl4
      rintro V3 ⟨g, g2, hw⟩
      have hl3 := g.lt; have hl4 := g2.lt
      obtain ⟨er, her⟩ : ∃ e, e = regsE [a.m, b.m] l := ⟨_, rfl⟩
      have HRG : Hid (∀ W, Below w.heap.size w W → ∀ p, Blk W p #[.int .i64 a.kind, .slice a.a a.rows.length a.c, .int .i64 a.after, .int .i64 b.kind, .slice b.a b.rows.length b.c, .int .i64 b.after] 25 → Calls Try.prog 17 #[.slice (some ⟨p, 0, none⟩) 2 2, .slice lA l.length lc] W fun e w' => e = .returned (.int .i64 er) ∧ Below W.heap.size W w') := Lib.hid fun W hW p hp => by
        rw [her]; exact rreg_any lA lc l (some ⟨p, 0, none⟩) 2 [a, b] W (by omega) (by simp) ((HL.out.below hW).more hW.size) (mds_two hp (HRAd.out W hW) (HRBd.out W hW))
      have HER := Lib.hid her
      clear her
      (have z0 := g.cell 0; have z1 := g.cell 1; have z2 := g.cell 2; have z3 := g2.cell 0; have z4 := g2.cell 1; have z5 := g2.cell 2; simp at z0 z1 z2 z3 z4 z5)
      go_wp2_with (first | (go_at_call 17; refine (HRG.out _ (hw.alloc hw.size _) V3.heap.size (Blk.new _ _ _)).mono ?_; rintro _ w3 ⟨rfl, hb3⟩; refine Hid.out ?_) | fail)
      have hb3V : Below V3.heap.size V3 w3 := bl3 (Below.refl _ _) hb3
      have g := g.below hb3V hl3
      have g2 := g2.below hb3V hl4
      have hw := bl2 hw hb3V
      have hl3 := g.lt; have hl4 := g2.lt
      clear hb3 hb3V z0 z1 z2 z3 z4 z5
      (have z0 := g.cell 0; have z1 := g.cell 1; have z2 := g.cell 2; have z3 := g2.cell 0; have z4 := g2.cell 1; have z5 := g2.cell 2; simp at z0 z1 z2 z3 z4 z5)
      refine Lib.hid ?_
      by_cases he : er = 0
      · have hz := regs_zero (m0 := a.m) (ms := [b.m]) (l := l) (by rw [← HER.out, he])
        have hma := hz.1 a.m (by simp)
        have hmb := hz.1 b.m (by simp)
        have hl4x := hz.2
        have hk2 : (kn, ke) = if (chgGo a.m b.m l (l.length + 1)).1 < 0 then (0, 7) else ((chgGo a.m b.m l (l.length + 1)).1, 0) := by
          have := HK.out
          unfold chgR at this
          rwa [if_pos (by rw [← HER.out, he])] at this
        have HRC := Lib.hid (fun W (hW : Below w.heap.size w W) => rchange_any a b lA lc l W hlc hma.1 hmb.1 hma.2.2 hmb.2.2 (by omega) (HRAd.out W hW) (HRBd.out W hW) ((HL.out.below hW).more hW.size))
        obtain ⟨cg, hcg⟩ : ∃ q, q = (chgGo a.m b.m l (l.length + 1)).1 := ⟨_, rfl⟩
        rw [← hcg] at HRC hk2
        subst he
        clear hz hma hmb hcg
        by_cases hc0 : cg < 0
        · have qc : decide (cg < 0) = true := decide_eq_true hc0
          rw [if_pos hc0] at hk2
          obtain ⟨rfl, rfl⟩ : kn = 0 ∧ ke = 7 := ⟨(Prod.mk.inj hk2).1, (Prod.mk.inj hk2).2⟩
          clear hk2 hc0
          go_wp2_with (first | (go_at_call 22; refine (HRC.out _ hw).mono ?_; rintro _ w4 ⟨rfl, hb4⟩; have hw := bl2 hw hb4) | (go_at_call 12; refine (known_any _).mono ?_; rintro _ w9 ⟨rfl, hb9⟩; have hw := bl2 hw hb9) | fail)
          refine bodyPost_ret (v := .bool true) (by simp [results, Try.results4, go_sem]) rfl ?_
          exact ⟨rfl, hw⟩
        · have qc : decide (cg < 0) = false := decide_eq_false hc0
          rw [if_neg hc0] at hk2
          obtain ⟨rfl, rfl⟩ : kn = cg ∧ ke = 0 := ⟨(Prod.mk.inj hk2).1, (Prod.mk.inj hk2).2⟩
          clear hk2 hc0
          go_wp2_with (first | (go_at_call 22; refine (HRC.out _ hw).mono ?_; rintro _ w4 ⟨rfl, hb4⟩; have hw := bl2 hw hb4) | (go_at_call 12; refine (known_any _).mono ?_; rintro _ w9 ⟨rfl, hb9⟩; have hw := bl2 hw hb9) | fail)
          refine bodyPost_ret (v := .bool true) (by simp [results, Try.results4, go_sem]) rfl ?_
          exact ⟨rfl, hw⟩
      · obtain ⟨rfl, rfl⟩ : kn = 0 ∧ ke = er := by
          have := HK.out
          unfold chgR at this
          rw [if_neg (by rw [← HER.out]; exact he), ← HER.out] at this
          exact ⟨(Prod.mk.inj this).1, (Prod.mk.inj this).2⟩
        have q5 : (ke != 0) = true := by simp; exact he
        have q6 : (ke == 0) = false := by simp; exact he
        clear he
        go_wp2_with (first | (go_at_call 12; refine (known_any _).mono ?_; rintro _ w9 ⟨rfl, hb9⟩; have hw := bl2 hw hb9) | fail)
        refine bodyPost_ret (v := .bool true) (by simp [results, Try.results4, go_sem]) rfl ?_
        exact ⟨rfl, hw⟩
  · have hQ : decide ((30 : Int) < (l.length : Int)) = false := decide_eq_false (by omega)
    go_upto_region 3 with (first | (go_at_call 11; (with_reducible refine (HLA.out _ hw).mono ?_); rintro _ w1 ⟨rfl, hb1⟩; have g := g.below hb1 g.lt; have g2 := g2.below hb1 g2.lt; have hw := bl2 hw hb1; clear z0 z1 z2 z3 z4 z5; (have z0 := g.cell 0; have z1 := g.cell 1; have z2 := g.cell 2; have z3 := g2.cell 0; have z4 := g2.cell 1; have z5 := g2.cell 2; simp at z0 z1 z2 z3 z4 z5)) | (go_at_call 11; (with_reducible refine (HLB.out _ hw).mono ?_); rintro _ w2 ⟨rfl, hb2⟩; have g := g.below hb2 g.lt; have g2 := g2.below hb2 g2.lt; have hw := bl2 hw hb2; clear z0 z1 z2 z3 z4 z5; (have z0 := g.cell 0; have z1 := g.cell 1; have z2 := g.cell 2; have z3 := g2.cell 0; have z4 := g2.cell 1; have z5 := g2.cell 2; simp at z0 z1 z2 z3 z4 z5)) | fail)
    clear z0 z1 z2 z3 z4 z5
    rename World => V1x
    refine gen_w (fun W => Blk W b3 #[.int .i64 a.kind, .slice a.a a.rows.length a.c, .int .i64 a.after] 25 ∧ Blk W (b3 + 1) #[.int .i64 b.kind, .slice b.a b.rows.length b.c, .int .i64 b.after] 25 ∧ Below w.heap.size w W) ⟨g, g2, hw⟩ ?_
    clear g g2 hw
    rintro V2 ⟨g, g2, hw⟩
    have hl3 : b3 < V2.heap.size := g.lt
    have hl4 : b3 + 1 < V2.heap.size := g2.lt
    have hS : ∀ W, Below V2.heap.size V2 W → W.cell? ⟨b3, 0, none⟩ = some (.int .i64 a.kind) ∧ W.cell? ⟨b3, 1, none⟩ = some (.slice a.a a.rows.length a.c) ∧ W.cell? ⟨b3, 2, none⟩ = some (.int .i64 a.after) ∧ W.cell? ⟨b3 + 1, 0, none⟩ = some (.int .i64 b.kind) ∧ W.cell? ⟨b3 + 1, 1, none⟩ = some (.slice b.a b.rows.length b.c) ∧ W.cell? ⟨b3 + 1, 2, none⟩ = some (.int .i64 b.after) := fun W hW => by
      have g := g.below hW g.lt
      have g2 := g2.below hW g2.lt
      (have z0 := g.cell 0; have z1 := g.cell 1; have z2 := g.cell 2; have z3 := g2.cell 0; have z4 := g2.cell 1; have z5 := g2.cell 2; simp at z0 z1 z2 z3 z4 z5)
      exact ⟨z0, z1, z2, z3, z4, z5⟩
    refine' wp_region_planE [.eff, .eff, .eff, .eff, .eff, .eff, .eff, .eff, .eff, .eff, .eff, .eff] [Det _, OwnC a.m, Det _, OwnC b.m, Det _, IntsC l l.length, Det (.tuple #[.int .i64 kn, .int .i64 ke]), Det (.tuple #[.int .i64 kn, .int .i64 ke]), Det (.int .i64 kn), Det (.int .i64 ke), Det _, Det _] [(11, 8), (10, 7), (9, 42), (8, 41), (7, 33), (6, 40), (5, 39), (4, 38), (3, 37), (2, 36), (1, 35), (0, 34)] (by kernel_rfl) (by kernel_rfl) (by kernel_rfl) (by kernel_rfl) (by kernel_rfl) (by kernel_rfl) (by kernel_rfl) ?hp2 ?hend2 ?hst2
    case hp2 =>
      refine And.intro ⟨[], by kernel_rfl, fun xs W hW hf K hK => opV_free rfl ?_⟩ ?_
      focus (have hs := hS W hW; (try simp only [factsL, pickF, Det, and_true] at hf); (try simp only [putL, Act.put, List.setIfInBounds_toArray, List.set_cons_zero, List.set_cons_succ]); (try simp only [hf]); go_simp; refine hK.out _ _ (Below.refl _ _) ?_; unfold Det; rfl)
      refine And.intro ⟨[(0, 34)], by kernel_rfl, fun xs W hW hf K hK => opV_free rfl ?_⟩ ?_
      · simp only [factsL, pickF, Det, and_true] at hf
        (try simp only [putL, Act.put, List.setIfInBounds_toArray, List.set_cons_zero, List.set_cons_succ])
        simp only [hf]
        go_simp
        refine (HOA.out _ (bl2 hw hW)).mono ?_
        rintro _ w9 ⟨y, rfl, hy, hr, hb9⟩
        exact ⟨_, rfl, hK.out _ _ hb9 ⟨y, rfl, hy, hr⟩⟩
      refine And.intro ⟨[], by kernel_rfl, fun xs W hW hf K hK => opV_free rfl ?_⟩ ?_
      focus (have hs := hS W hW; (try simp only [factsL, pickF, Det, and_true] at hf); (try simp only [putL, Act.put, List.setIfInBounds_toArray, List.set_cons_zero, List.set_cons_succ]); (try simp only [hf]); go_simp; refine hK.out _ _ (Below.refl _ _) ?_; unfold Det; rfl)
      refine And.intro ⟨[(2, 36)], by kernel_rfl, fun xs W hW hf K hK => opV_free rfl ?_⟩ ?_
      · simp only [factsL, pickF, Det, and_true] at hf
        (try simp only [putL, Act.put, List.setIfInBounds_toArray, List.set_cons_zero, List.set_cons_succ])
        simp only [hf]
        go_simp
        refine (HOB.out _ (bl2 hw hW)).mono ?_
        rintro _ w9 ⟨y, rfl, hy, hr, hb9⟩
        exact ⟨_, rfl, hK.out _ _ hb9 ⟨y, rfl, hy, hr⟩⟩
      refine And.intro ⟨[], by kernel_rfl, fun xs W hW hf K hK => opV_free rfl ?_⟩ ?_
      focus (have hs := hS W hW; (try simp only [factsL, pickF, Det, and_true] at hf); (try simp only [putL, Act.put, List.setIfInBounds_toArray, List.set_cons_zero, List.set_cons_succ]); (try simp only [hf]); go_simp; refine hK.out _ _ (Below.refl _ _) ?_; unfold Det; rfl)
      refine And.intro ⟨[(4, 38)], by kernel_rfl, fun xs W hW hf K hK => opV_free rfl ?_⟩ ?_
      · simp only [factsL, pickF, Det, and_true] at hf
        (try simp only [putL, Act.put, List.setIfInBounds_toArray, List.set_cons_zero, List.set_cons_succ])
        simp only [hf]
        go_simp
        refine (HIN.out _ (bl2 hw hW)).mono ?_
        rintro _ w9 ⟨B, k, rfl, hs, -, hk1, -, hb9⟩
        exact ⟨_, rfl, hK.out _ _ hb9 ⟨B, k, rfl, hs, hk1⟩⟩
      refine And.intro ⟨[(5, 39), (3, 37), (1, 35)], by kernel_rfl, fun xs W hW hf K hK => opV_free rfl ?_⟩ ?_
      · simp only [factsL, pickF, Det, and_true] at hf
        (try simp only [putL, Act.put, List.setIfInBounds_toArray, List.set_cons_zero, List.set_cons_succ])
        obtain ⟨⟨B, k, e1, hs, hk1⟩, ⟨y2, e2, hy2, hr2⟩, ⟨y1, e3, hy1, hr1⟩⟩ := hf
        simp only [e1, e2, e3]
        go_simp
        refine (HCM.out _ y1 y2 B k hy1 hy2 hr1 hr2 hs hk1).mono ?_
        rintro _ w9 ⟨rfl, hb9⟩
        exact ⟨_, rfl, hK.out _ _ hb9 rfl⟩
      refine And.intro ⟨[(6, 40)], by kernel_rfl, fun xs W hW hf K hK => opV_free rfl ?_⟩ ?_
      focus (have hs := hS W hW; (try simp only [factsL, pickF, Det, and_true] at hf); (try simp only [putL, Act.put, List.setIfInBounds_toArray, List.set_cons_zero, List.set_cons_succ]); (try simp only [hf]); go_simp; refine hK.out _ _ (Below.refl _ _) ?_; unfold Det; rfl)
      refine And.intro ⟨[(7, 33)], by kernel_rfl, fun xs W hW hf K hK => opV_free rfl ?_⟩ ?_
      focus (have hs := hS W hW; (try simp only [factsL, pickF, Det, and_true] at hf); (try simp only [putL, Act.put, List.setIfInBounds_toArray, List.set_cons_zero, List.set_cons_succ]); (try simp only [hf]); go_simp; refine hK.out _ _ (Below.refl _ _) ?_; unfold Det; rfl)
      refine And.intro ⟨[(7, 33)], by kernel_rfl, fun xs W hW hf K hK => opV_free rfl ?_⟩ ?_
      focus (have hs := hS W hW; (try simp only [factsL, pickF, Det, and_true] at hf); (try simp only [putL, Act.put, List.setIfInBounds_toArray, List.set_cons_zero, List.set_cons_succ]); (try simp only [hf]); go_simp; refine hK.out _ _ (Below.refl _ _) ?_; unfold Det; rfl)
      refine And.intro ⟨[(8, 41)], by kernel_rfl, fun xs W hW hf K hK => opV_free rfl ?_⟩ ?_
      focus (have hs := hS W hW; (try simp only [factsL, pickF, Det, and_true] at hf); (try simp only [putL, Act.put, List.setIfInBounds_toArray, List.set_cons_zero, List.set_cons_succ]); (try simp only [hf]); go_simp; refine hK.out _ _ (Below.refl _ _) ?_; unfold Det; rfl)
      refine And.intro ⟨[(9, 42)], by kernel_rfl, fun xs W hW hf K hK => opV_free rfl ?_⟩ ?_
      focus (have hs := hS W hW; (try simp only [factsL, pickF, Det, and_true] at hf); (try simp only [putL, Act.put, List.setIfInBounds_toArray, List.set_cons_zero, List.set_cons_succ]); (try simp only [hf]); go_simp; refine hK.out _ _ (Below.refl _ _) ?_; unfold Det; rfl)
      trivial
    case hst2 => exact ⟨det_stays, OwnC.stays, det_stays, OwnC.stays, det_stays, IntsC.stays, det_stays, det_stays, det_stays, det_stays, det_stays, det_stays, trivial⟩
    case hend2 =>
      intro xs W hW hf
      simp only [factsA, Det, noF, Nat.zero_add, Nat.reduceAdd, and_true, true_and] at hf
      obtain ⟨f0, f1, f2, f3, f4, f5, f6, f7, f8, f9, f10, f11⟩ := hf
      (simp only [putL, Act.put, upd, List.setIfInBounds_toArray, List.set_cons_zero, List.set_cons_succ])
      simp only [f0, f2, f4, f6, f7, f8, f9, f10, f11]
      refine gen_w (fun W' => Blk W' b3 #[.int .i64 a.kind, .slice a.a a.rows.length a.c, .int .i64 a.after] 25 ∧ Blk W' (b3 + 1) #[.int .i64 b.kind, .slice b.a b.rows.length b.c, .int .i64 b.after] 25 ∧ Below w.heap.size w W') ⟨g.below hW hl3, g2.below hW hl4, bl2 hw hW⟩ ?_
      clear g g2 hw hW hS f0 f1 f2 f3 f4 f5 f6 f7 f8 f9 f10 f11 hl3 hl4
      rintro V3 ⟨g, g2, hw⟩
      have hl3 := g.lt; have hl4 := g2.lt
      obtain ⟨er, her⟩ : ∃ e, e = regsE [a.m, b.m] l := ⟨_, rfl⟩
      have HRG : Hid (∀ W, Below w.heap.size w W → ∀ p, Blk W p #[.int .i64 a.kind, .slice a.a a.rows.length a.c, .int .i64 a.after, .int .i64 b.kind, .slice b.a b.rows.length b.c, .int .i64 b.after] 25 → Calls Try.prog 17 #[.slice (some ⟨p, 0, none⟩) 2 2, .slice lA l.length lc] W fun e w' => e = .returned (.int .i64 er) ∧ Below W.heap.size W w') := Lib.hid fun W hW p hp => by
        rw [her]; exact rreg_any lA lc l (some ⟨p, 0, none⟩) 2 [a, b] W (by omega) (by simp) ((HL.out.below hW).more hW.size) (mds_two hp (HRAd.out W hW) (HRBd.out W hW))
      have HER := Lib.hid her
      clear her
      (have z0 := g.cell 0; have z1 := g.cell 1; have z2 := g.cell 2; have z3 := g2.cell 0; have z4 := g2.cell 1; have z5 := g2.cell 2; simp at z0 z1 z2 z3 z4 z5)
      go_wp2_with (first | (go_at_call 17; refine (HRG.out _ (hw.alloc hw.size _) V3.heap.size (Blk.new _ _ _)).mono ?_; rintro _ w3 ⟨rfl, hb3⟩; refine Hid.out ?_) | fail)
      have hb3V : Below V3.heap.size V3 w3 := bl3 (Below.refl _ _) hb3
      have g := g.below hb3V hl3
      have g2 := g2.below hb3V hl4
      have hw := bl2 hw hb3V
      have hl3 := g.lt; have hl4 := g2.lt
      clear hb3 hb3V z0 z1 z2 z3 z4 z5
      (have z0 := g.cell 0; have z1 := g.cell 1; have z2 := g.cell 2; have z3 := g2.cell 0; have z4 := g2.cell 1; have z5 := g2.cell 2; simp at z0 z1 z2 z3 z4 z5)
      refine Lib.hid ?_
      by_cases he : er = 0
      · have hz := regs_zero (m0 := a.m) (ms := [b.m]) (l := l) (by rw [← HER.out, he])
        have hma := hz.1 a.m (by simp)
        have hmb := hz.1 b.m (by simp)
        have hl4x := hz.2
        have hk2 : (kn, ke) = if (chgGo a.m b.m l (l.length + 1)).1 < 0 then (0, 7) else ((chgGo a.m b.m l (l.length + 1)).1, 0) := by
          have := HK.out
          unfold chgR at this
          rwa [if_pos (by rw [← HER.out, he])] at this
        have HRC := Lib.hid (fun W (hW : Below w.heap.size w W) => rchange_any a b lA lc l W hlc hma.1 hmb.1 hma.2.2 hmb.2.2 (by omega) (HRAd.out W hW) (HRBd.out W hW) ((HL.out.below hW).more hW.size))
        obtain ⟨cg, hcg⟩ : ∃ q, q = (chgGo a.m b.m l (l.length + 1)).1 := ⟨_, rfl⟩
        rw [← hcg] at HRC hk2
        subst he
        clear hz hma hmb hcg
        by_cases hc0 : cg < 0
        · have qc : decide (cg < 0) = true := decide_eq_true hc0
          rw [if_pos hc0] at hk2
          obtain ⟨rfl, rfl⟩ : kn = 0 ∧ ke = 7 := ⟨(Prod.mk.inj hk2).1, (Prod.mk.inj hk2).2⟩
          clear hk2 hc0
          go_wp2_with (first | (go_at_call 22; refine (HRC.out _ hw).mono ?_; rintro _ w4 ⟨rfl, hb4⟩; have hw := bl2 hw hb4) | (go_at_call 12; refine (known_any _).mono ?_; rintro _ w9 ⟨rfl, hb9⟩; have hw := bl2 hw hb9) | fail)
          refine bodyPost_ret (v := .bool true) (by simp [results, Try.results4, go_sem]) rfl ?_
          exact ⟨rfl, hw⟩
        · have qc : decide (cg < 0) = false := decide_eq_false hc0
          rw [if_neg hc0] at hk2
          obtain ⟨rfl, rfl⟩ : kn = cg ∧ ke = 0 := ⟨(Prod.mk.inj hk2).1, (Prod.mk.inj hk2).2⟩
          clear hk2 hc0
          go_wp2_with (first | (go_at_call 22; refine (HRC.out _ hw).mono ?_; rintro _ w4 ⟨rfl, hb4⟩; have hw := bl2 hw hb4) | (go_at_call 12; refine (known_any _).mono ?_; rintro _ w9 ⟨rfl, hb9⟩; have hw := bl2 hw hb9) | fail)
          refine bodyPost_ret (v := .bool true) (by simp [results, Try.results4, go_sem]) rfl ?_
          exact ⟨rfl, hw⟩
      · obtain ⟨rfl, rfl⟩ : kn = 0 ∧ ke = er := by
          have := HK.out
          unfold chgR at this
          rw [if_neg (by rw [← HER.out]; exact he), ← HER.out] at this
          exact ⟨(Prod.mk.inj this).1, (Prod.mk.inj this).2⟩
        have q5 : (ke != 0) = true := by simp; exact he
        have q6 : (ke == 0) = false := by simp; exact he
        clear he
        go_wp2_with (first | (go_at_call 12; refine (known_any _).mono ?_; rintro _ w9 ⟨rfl, hb9⟩; have hw := bl2 hw hb9) | fail)
        refine bodyPost_ret (v := .bool true) (by simp [results, Try.results4, go_sem]) rfl ?_
        exact ⟨rfl, hw⟩
end Go.Proofs.Ytiikkcifdhcejaa

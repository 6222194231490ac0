/- habit: the law HabitBeliefs. -/
import Derived.Test.YtiikkcifdhcejaaWs
import Derived.Test.YtiikkcifdhcejaaZ28Fk
namespace Go.Proofs.Ytiikkcifdhcejaa
open Go.RowKit

/-- a value that is a copy of a model, of a list -/
def OwnM (m : HMd) (q : Value) (W : World) : Prop := ∃ y : Md, q = .agg #[.int .i64 y.kind, .slice y.a y.rows.length y.c, .int .i64 y.after] ∧ y.m = m ∧ y.reads W W.heap.size
theorem OwnM.stays {m : HMd} : Stays (OwnM m) := fun _ _ _ ⟨y, h1, h2, h3⟩ hb => ⟨y, h1, h2, (h3.below hb).more hb.size⟩
def IntsF (l : List Int) (n : Nat) (q : Value) (W : World) : Prop := ∃ B k, q = .slice B n k ∧ Sl intCell 1 W W.heap.size B l
theorem IntsF.stays {l : List Int} {n : Nat} : Stays (IntsF l n) := fun _ _ _ ⟨B, k, h1, h2⟩ hb => ⟨B, k, h1, (h2.below hb).more hb.size⟩
def newB (V : World) (cs : Array Value) (t : TypeId) (q : Value) (W : World) : Prop := ∃ b, q = .pointer (some ⟨b, 0, none⟩) ∧ Blk W b cs t ∧ V.heap.size ≤ b
theorem newB_stays {V : World} {cs : Array Value} {t : TypeId} : Stays (newB V cs t) := fun _ _ _ ⟨b, h1, h2, h3⟩ hb => ⟨b, h1, h2.below hb h2.lt, h3⟩
theorem sl_takeI {w : World} {B : Nat} {A : Option Addr} {l : List Int} (h : Sl intCell 1 w B A l) {k : Nat} (hk : k ≤ l.length) : Sl intCell 1 w B A (l.take k) := by
  have e : flat intCell (l.take k) = (flat intCell l).take k := by rw [flat_int, flat_int, List.map_take]
  refine ⟨by rw [flat_int]; simp, fun hn => ?_⟩
  simp at hn
  obtain ⟨b, o, e1, hb, hc⟩ := h.2 (by omega)
  refine ⟨b, o, e1, hb, fun j u hu => hc j u ?_⟩
  rw [e] at hu
  rw [List.getElem?_take] at hu
  split at hu
  · exact hu
  · cases hu
theorem ints_to (A : Option Addr) (len c t : Nat) (W : World) (h : t ≤ len) (hc : len ≤ c) : (Instr.slice 30 (.slice A len c) none (some (.int .i64 (t : Int))) none).run Try.prog W = .ok (.slice A t c) W := by
  rw [run_slice_h W 30 A len c (by kernel_rfl) .i64 (t : Int) (by omega) (by omega)]
  have hs : (sizeOf (Try.prog.elem 30)).run Try.prog W = .ok 1 W := by kernel_rfl
  rw [hs, Int.toNat_natCast]
  show Result.ok (sliced A 0 t c 1) W = _
  unfold sliced
  have e : Option.map (fun x : Addr => x.add (0 * 1)) A = A := by
    cases A with
    | none => rfl
    | some ad =>
      obtain ⟨b, o, s⟩ := ad
      cases s <;> simp [Addr.add]
  rw [e]
  simp
set_option maxRecDepth 100000 in
set_option maxHeartbeats 8000000 in
theorem lwbel_any (c : Ch) (a b : Md) (l : List Int) (lA : Option Addr) (lc : Nat) (cut : Int) (w : World) (ha : Lists w w.heap.size a.a a.rows) (hb : Lists w w.heap.size b.a b.rows) (hna : ∀ r ∈ a.rows, r.a = none → r.c = 0) (hnb : ∀ r ∈ b.rows, r.a = none → r.c = 0)
    (hl : Sl intCell 1 w w.heap.size lA l) (hlA : lA = none → lc = 0) (hlc : l.length ≤ lc) (hc0 : 0 ≤ cut) (hc1 : cut ≤ 255) :
    Calls Try.prog 6 #[.agg #[.int .i64 a.kind, .slice a.a a.rows.length a.c, .int .i64 a.after, .int .i64 b.kind, .slice b.a b.rows.length b.c, .int .i64 b.after, .int .i64 c.n, .int .i64 c.d], .slice lA l.length lc, .int .u8 cut] w fun e w' => e = .returned (.bool true) ∧ Below w.heap.size w w' := by
  obtain ⟨la, hla⟩ : ∃ q, q = largeB a.m := ⟨_, rfl⟩
  obtain ⟨lb, hlb⟩ : ∃ q, q = largeB b.m := ⟨_, rfl⟩
  have HLA : Hid (∀ W, Below w.heap.size w W → Calls Try.prog 11 #[.agg #[.int .i64 a.kind, .slice a.a a.rows.length a.c, .int .i64 a.after]] W fun e w' => e = .returned (.bool la) ∧ Below W.heap.size W w') := Lib.hid fun W hW => by rw [hla]; exact llarge_any a W ((ha.below hW).more hW.size)
  have HLB : Hid (∀ W, Below w.heap.size w W → Calls Try.prog 11 #[.agg #[.int .i64 b.kind, .slice b.a b.rows.length b.c, .int .i64 b.after]] W fun e w' => e = .returned (.bool lb) ∧ Below W.heap.size W w') := Lib.hid fun W hW => by rw [hlb]; exact llarge_any b W ((hb.below hW).more hW.size)
  have HA := Lib.hid ha; have HB := Lib.hid hb; have HNA := Lib.hid hna; have HNB := Lib.hid hnb; have HL := Lib.hid hl; have HLN := Lib.hid hlA; have HLL := Lib.hid hla; have HLM := Lib.hid hlb
  clear ha hb hna hnb hl hlA hla hlb
  go_enter Try.func6, Try.ntmps6
  go_upto_region 1 with fail
  obtain ⟨b3, hb3⟩ : ∃ q, q = w.heap.size := ⟨_, rfl⟩
  rw [← hb3]
  refine gen_w (fun W => Blk W b3 #[.int .i64 a.kind, .slice a.a a.rows.length a.c, .int .i64 a.after, .int .i64 b.kind, .slice b.a b.rows.length b.c, .int .i64 b.after, .int .i64 c.n, .int .i64 c.d] 29 ∧ Below w.heap.size w W) ⟨Blk.at_ hb3, by (repeat (first | exact Below.refl _ _ | assumption | (refine Below.alloc ?_ (by first | omega | (simp; omega) | (simp; done)) _) | (refine Below.setCell ?_ (by first | omega | (simp; omega) | (simp; done)) _) | (refine Below.drew ?_) | (refine belowN ?_ _) | (refine Below.trans ?_ (Below.mono ‹Below _ _ _› (by first | omega | (simp; omega) | (simp; done))))))⟩ ?_
  rintro V ⟨g, hw⟩
  have hwb : w.heap.size ≤ b3 := by omega
  clear hb3
  (have z0 := g.cell 0; have z1 := g.cell 1; have z2 := g.cell 2; have z3 := g.cell 3; have z4 := g.cell 4; have z5 := g.cell 5; have z6 := g.cell 6; have z7 := g.cell 7; simp at z0 z1 z2 z3 z4 z5 z6 z7)
  cases la with
  | true =>
    go_wp2_with (first | (go_at_call 11; (with_reducible refine (HLA.out _ hw).mono ?_); rintro _ w1 ⟨rfl, hb1⟩; have g := g.below hb1 g.lt; have hw := bl2 hw hb1; clear z0 z1 z2 z3 z4 z5 z6 z7; (have z0 := g.cell 0; have z1 := g.cell 1; have z2 := g.cell 2; have z3 := g.cell 3; have z4 := g.cell 4; have z5 := g.cell 5; have z6 := g.cell 6; have z7 := g.cell 7; simp at z0 z1 z2 z3 z4 z5 z6 z7)) | (go_at_call 12; refine (known_any _).mono ?_; rintro _ w9 ⟨rfl, hb9⟩; have hw := bl2 hw hb9) | fail)
    go_ret
    exact ⟨rfl, hw⟩
  | false =>
  cases lb with
  | true =>
    go_wp2_with (first | (go_at_call 11; (with_reducible refine (HLA.out _ hw).mono ?_); rintro _ w1 ⟨rfl, hb1⟩; have g := g.below hb1 g.lt; have hw := bl2 hw hb1; clear z0 z1 z2 z3 z4 z5 z6 z7; (have z0 := g.cell 0; have z1 := g.cell 1; have z2 := g.cell 2; have z3 := g.cell 3; have z4 := g.cell 4; have z5 := g.cell 5; have z6 := g.cell 6; have z7 := g.cell 7; simp at z0 z1 z2 z3 z4 z5 z6 z7)) | (go_at_call 11; (with_reducible refine (HLB.out _ hw).mono ?_); rintro _ w2 ⟨rfl, hb2⟩; have g := g.below hb2 g.lt; have hw := bl2 hw hb2; clear z0 z1 z2 z3 z4 z5 z6 z7; (have z0 := g.cell 0; have z1 := g.cell 1; have z2 := g.cell 2; have z3 := g.cell 3; have z4 := g.cell 4; have z5 := g.cell 5; have z6 := g.cell 6; have z7 := g.cell 7; simp at z0 z1 z2 z3 z4 z5 z6 z7)) | (go_at_call 12; refine (known_any _).mono ?_; rintro _ w9 ⟨rfl, hb9⟩; have hw := bl2 hw hb9) | fail)
    go_ret
    exact ⟨rfl, hw⟩
  | false =>
  by_cases h60 : 60 < l.length
  · have hQ : decide ((60 : Int) < (l.length : Int)) = true := by simp; omega
    go_wp2_with (first | (go_at_call 11; (with_reducible refine (HLA.out _ hw).mono ?_); rintro _ w1 ⟨rfl, hb1⟩; have g := g.below hb1 g.lt; have hw := bl2 hw hb1; clear z0 z1 z2 z3 z4 z5 z6 z7; (have z0 := g.cell 0; have z1 := g.cell 1; have z2 := g.cell 2; have z3 := g.cell 3; have z4 := g.cell 4; have z5 := g.cell 5; have z6 := g.cell 6; have z7 := g.cell 7; simp at z0 z1 z2 z3 z4 z5 z6 z7)) | (go_at_call 11; (with_reducible refine (HLB.out _ hw).mono ?_); rintro _ w2 ⟨rfl, hb2⟩; have g := g.below hb2 g.lt; have hw := bl2 hw hb2; clear z0 z1 z2 z3 z4 z5 z6 z7; (have z0 := g.cell 0; have z1 := g.cell 1; have z2 := g.cell 2; have z3 := g.cell 3; have z4 := g.cell 4; have z5 := g.cell 5; have z6 := g.cell 6; have z7 := g.cell 7; simp at z0 z1 z2 z3 z4 z5 z6 z7)) | (go_at_call 12; refine (known_any _).mono ?_; rintro _ w9 ⟨rfl, hb9⟩; have hw := bl2 hw hb9) | fail)
    go_ret
    exact ⟨rfl, hw⟩
  have hQ : decide ((60 : Int) < (l.length : Int)) = false := by simp; omega
  have hbl : Below w.heap.size w w := Below.refl _ w
  have HRA : Hid (a.rows.length ≤ 1000000 ∧ ∀ r ∈ a.rows, r.l.length ≤ 1000000) := Lib.hid (by
    have h9 := HLL.out.symm
    unfold largeB Md.m at h9
    simp only [Bool.or_eq_false_iff, decide_eq_false_iff_not, List.any_map, List.any_eq_false, List.length_map] at h9
    exact ⟨by omega, fun r hr => by have := h9.2 r hr; simp at this; omega⟩)
  have HRB : Hid (b.rows.length ≤ 1000000 ∧ ∀ r ∈ b.rows, r.l.length ≤ 1000000) := Lib.hid (by
    have h9 := HLM.out.symm
    unfold largeB Md.m at h9
    simp only [Bool.or_eq_false_iff, decide_eq_false_iff_not, List.any_map, List.any_eq_false, List.length_map] at h9
    exact ⟨by omega, fun r hr => by have := h9.2 r hr; simp at this; omega⟩)
  have HOA := Lib.hid (fun W (hW : Below w.heap.size w W) => lown_any a W ⟨(HA.out.below hW).more hW.size, HRA.out.1, HRA.out.2⟩ HNA.out)
  have HOB := Lib.hid (fun W (hW : Below w.heap.size w W) => lown_any b W ⟨(HB.out.below hW).more hW.size, HRB.out.1, HRB.out.2⟩ HNB.out)
  have HIN := Lib.hid (fun W (hW : Below w.heap.size w W) => lints_any lA lc l.length l W rfl (by omega) HLN.out ((HL.out.below hW).more hW.size))
  obtain ⟨⟨rn, rd, re⟩, hres⟩ : ∃ q : Int × Int × Int, q = belR c a.m b.m l := ⟨_, rfl⟩
  have HBE : Hid (∀ W (y1 y2 : Md) B k, y1.m = a.m → y2.m = b.m → y1.reads W W.heap.size → y2.reads W W.heap.size → Sl intCell 1 W W.heap.size B l → Calls Try.prog 16 #[.agg #[.int .i64 c.n, .int .i64 c.d], .agg #[.int .i64 y1.kind, .slice y1.a y1.rows.length y1.c, .int .i64 y1.after], .agg #[.int .i64 y2.kind, .slice y2.a y2.rows.length y2.c, .int .i64 y2.after], .slice B l.length k] W (RetC (rn, rd, re) W)) := Lib.hid fun W y1 y2 B k h1 h2 h3 h4 h5 => by
    rw [hres, ← h1, ← h2]; exact belF_any c y1 y2 l B k W (by omega) h3 h4 h5
  have HRES := Lib.hid hres
  clear hres hbl
  go_upto_region 3 with (first | (go_at_call 11; (with_reducible refine (HLA.out _ hw).mono ?_); rintro _ w1 ⟨rfl, hb1⟩; have g := g.below hb1 g.lt; have hw := bl2 hw hb1; clear z0 z1 z2 z3 z4 z5 z6 z7; (have z0 := g.cell 0; have z1 := g.cell 1; have z2 := g.cell 2; have z3 := g.cell 3; have z4 := g.cell 4; have z5 := g.cell 5; have z6 := g.cell 6; have z7 := g.cell 7; simp at z0 z1 z2 z3 z4 z5 z6 z7)) | (go_at_call 11; (with_reducible refine (HLB.out _ hw).mono ?_); rintro _ w2 ⟨rfl, hb2⟩; have g := g.below hb2 g.lt; have hw := bl2 hw hb2; clear z0 z1 z2 z3 z4 z5 z6 z7; (have z0 := g.cell 0; have z1 := g.cell 1; have z2 := g.cell 2; have z3 := g.cell 3; have z4 := g.cell 4; have z5 := g.cell 5; have z6 := g.cell 6; have z7 := g.cell 7; simp at z0 z1 z2 z3 z4 z5 z6 z7)) | fail)
  clear z0 z1 z2 z3 z4 z5 z6 z7
  rename World => V1x
  refine gen_w (fun W => Blk W b3 #[.int .i64 a.kind, .slice a.a a.rows.length a.c, .int .i64 a.after, .int .i64 b.kind, .slice b.a b.rows.length b.c, .int .i64 b.after, .int .i64 c.n, .int .i64 c.d] 29 ∧ Below w.heap.size w W) ⟨g, hw⟩ ?_
  clear g hw
  rintro V1 ⟨g, hw⟩
  have hS : ∀ W, Below V1.heap.size V1 W → W.cell? ⟨b3, 0, none⟩ = some (.int .i64 a.kind) ∧ W.cell? ⟨b3, 1, none⟩ = some (.slice a.a a.rows.length a.c) ∧ W.cell? ⟨b3, 2, none⟩ = some (.int .i64 a.after) ∧ W.cell? ⟨b3, 3, none⟩ = some (.int .i64 b.kind) ∧ W.cell? ⟨b3, 4, none⟩ = some (.slice b.a b.rows.length b.c) ∧ W.cell? ⟨b3, 5, none⟩ = some (.int .i64 b.after) ∧ W.cell? ⟨b3, 6, none⟩ = some (.int .i64 c.n) ∧ W.cell? ⟨b3, 7, none⟩ = some (.int .i64 c.d) := fun W hW => by
    have g := g.below hW g.lt
    (have z0 := g.cell 0; have z1 := g.cell 1; have z2 := g.cell 2; have z3 := g.cell 3; have z4 := g.cell 4; have z5 := g.cell 5; have z6 := g.cell 6; have z7 := g.cell 7; simp at z0 z1 z2 z3 z4 z5 z6 z7)
    exact ⟨z0, z1, z2, z3, z4, z5, z6, z7⟩
  refine' wp_region_plan 15 [14, 12, 11, 10, 9, 8, 7, 6, 5, 4, 3, 2, 1, 0] [.eff, .eff, .eff, .eff, .eff, .eff, .eff, .eff, .eff, .eff, .eff, .eff, .eff, .pur, .eff, .last, .post] [Det _, Det _, Det _, Det _, OwnM a.m, Det _, Det _, OwnM b.m, Det _, IntsF l l.length, Det (.tuple #[.agg #[.int .i64 rn, .int .i64 rd], .int .i64 re]), Det (.tuple #[.agg #[.int .i64 rn, .int .i64 rd], .int .i64 re]), Det (.agg #[.int .i64 rn, .int .i64 rd]), Det (.int .i64 re), newB V1 #[.int .i64 0, .int .i64 0] 27, noF, Det (.int .i64 re)] (by rfl) [(14, 7), (12, 44)] [(16, 8), (14, 7), (13, 45), (12, 44), (11, 32), (10, 43), (9, 42), (8, 41), (7, 40), (6, 39), (5, 38), (4, 37), (3, 36), (2, 35), (1, 34), (0, 33)] (by kernel_rfl) (by kernel_rfl) (by kernel_rfl) (by kernel_rfl) (by kernel_rfl) (by kernel_rfl) (by kernel_rfl) (by kernel_rfl) (by kernel_rfl) rfl ?hp ?hend ?hst
  case hp =>
    refine And.intro ⟨[], by kernel_rfl, fun xs W hW hf K hK => opV_free rfl ?_⟩ ?_
    focus (have hs := hS W hW; (try simp only [factsL] at hf); (try simp only [putL]); (try simp only [hf]); go_simp; refine hK.out _ _ (Below.refl _ _) ?_; unfold Det; rfl)
    refine And.intro ⟨[(0, 33)], by kernel_rfl, fun xs W hW hf K hK => opV_free rfl ?_⟩ ?_
    focus (have hs := hS W hW; (try simp only [factsL, pickF, Det, and_true] at hf); (try simp only [putL, Act.put, List.setIfInBounds_toArray, List.set_cons_zero, List.set_cons_succ]); (try simp only [hf]); go_simp; refine hK.out _ _ (Below.refl _ _) ?_; unfold Det; rfl)
    refine And.intro ⟨[], by kernel_rfl, fun xs W hW hf K hK => opV_free rfl ?_⟩ ?_
    focus (have hs := hS W hW; (try simp only [factsL] at hf); (try simp only [putL]); (try simp only [hf]); go_simp; refine hK.out _ _ (Below.refl _ _) ?_; unfold Det; rfl)
    refine And.intro ⟨[(2, 35)], by kernel_rfl, fun xs W hW hf K hK => opV_free rfl ?_⟩ ?_
    focus (have hs := hS W hW; (try simp only [factsL, pickF, Det, and_true] at hf); (try simp only [putL, Act.put, List.setIfInBounds_toArray, List.set_cons_zero, List.set_cons_succ]); (try simp only [hf]); go_simp; refine hK.out _ _ (Below.refl _ _) ?_; unfold Det; rfl)
    refine And.intro ⟨[(3, 36)], by kernel_rfl, fun xs W hW hf K hK => opV_free rfl ?_⟩ ?_
    · simp only [factsL, pickF, Det, and_true] at hf
      (try simp only [putL, Act.put, List.setIfInBounds_toArray, List.set_cons_zero, List.set_cons_succ])
      simp only [hf]
      go_simp
      refine (HOA.out _ (bl2 hw hW)).mono ?_
      rintro _ w9 ⟨y, rfl, hy, hr, hb9⟩
      exact ⟨_, rfl, hK.out _ _ hb9 ⟨y, rfl, hy, hr⟩⟩
    refine And.intro ⟨[], by kernel_rfl, fun xs W hW hf K hK => opV_free rfl ?_⟩ ?_
    focus (have hs := hS W hW; (try simp only [factsL] at hf); (try simp only [putL]); (try simp only [hf]); go_simp; refine hK.out _ _ (Below.refl _ _) ?_; unfold Det; rfl)
    refine And.intro ⟨[(5, 38)], by kernel_rfl, fun xs W hW hf K hK => opV_free rfl ?_⟩ ?_
    focus (have hs := hS W hW; (try simp only [factsL, pickF, Det, and_true] at hf); (try simp only [putL, Act.put, List.setIfInBounds_toArray, List.set_cons_zero, List.set_cons_succ]); (try simp only [hf]); go_simp; refine hK.out _ _ (Below.refl _ _) ?_; unfold Det; rfl)
    refine And.intro ⟨[(6, 39)], by kernel_rfl, fun xs W hW hf K hK => opV_free rfl ?_⟩ ?_
    · simp only [factsL, pickF, Det, and_true] at hf
      (try simp only [putL, Act.put, List.setIfInBounds_toArray, List.set_cons_zero, List.set_cons_succ])
      simp only [hf]
      go_simp
      refine (HOB.out _ (bl2 hw hW)).mono ?_
      rintro _ w9 ⟨y, rfl, hy, hr, hb9⟩
      exact ⟨_, rfl, hK.out _ _ hb9 ⟨y, rfl, hy, hr⟩⟩
    refine And.intro ⟨[], by kernel_rfl, fun xs W hW hf K hK => opV_free rfl ?_⟩ ?_
    focus (have hs := hS W hW; (try simp only [factsL] at hf); (try simp only [putL]); (try simp only [hf]); go_simp; refine hK.out _ _ (Below.refl _ _) ?_; unfold Det; rfl)
    refine And.intro ⟨[(8, 41)], by kernel_rfl, fun xs W hW hf K hK => opV_free rfl ?_⟩ ?_
    · simp only [factsL, pickF, Det, and_true] at hf
      (try simp only [putL, Act.put, List.setIfInBounds_toArray, List.set_cons_zero, List.set_cons_succ])
      simp only [hf]
      go_simp
      refine (HIN.out _ (bl2 hw hW)).mono ?_
      rintro _ w9 ⟨B, k, rfl, hs, -, -, -, hb9⟩
      exact ⟨_, rfl, hK.out _ _ hb9 ⟨B, k, rfl, hs⟩⟩
    refine And.intro ⟨[(9, 42), (7, 40), (4, 37), (1, 34)], by kernel_rfl, fun xs W hW hf K hK => opV_free rfl ?_⟩ ?_
    · simp only [factsL, pickF, Det, and_true] at hf
      (try simp only [putL, Act.put, List.setIfInBounds_toArray, List.set_cons_zero, List.set_cons_succ])
      obtain ⟨⟨B, k, e1, hs⟩, ⟨y2, e2, hy2, hr2⟩, ⟨y1, e3, hy1, hr1⟩, e4⟩ := hf
      simp only [e1, e2, e3, e4]
      go_simp
      refine (HBE.out _ y1 y2 B k hy1 hy2 hr1 hr2 hs).mono ?_
      rintro _ w9 ⟨rfl, hb9⟩
      exact ⟨_, rfl, hK.out _ _ hb9 rfl⟩
    refine And.intro ⟨[(10, 43)], by kernel_rfl, fun xs W hW hf K hK => opV_free rfl ?_⟩ ?_
    focus (have hs := hS W hW; (try simp only [factsL, pickF, Det, and_true] at hf); (try simp only [putL, Act.put, List.setIfInBounds_toArray, List.set_cons_zero, List.set_cons_succ]); (try simp only [hf]); go_simp; refine hK.out _ _ (Below.refl _ _) ?_; unfold Det; rfl)
    refine And.intro ⟨[(11, 32)], by kernel_rfl, fun xs W hW hf K hK => opV_free rfl ?_⟩ ?_
    focus (have hs := hS W hW; (try simp only [factsL, pickF, Det, and_true] at hf); (try simp only [putL, Act.put, List.setIfInBounds_toArray, List.set_cons_zero, List.set_cons_succ]); (try simp only [hf]); go_simp; refine hK.out _ _ (Below.refl _ _) ?_; unfold Det; rfl)
    refine And.intro ⟨[(11, 32)], by kernel_rfl, fun xs W hW hf => ⟨_, det_rfl, yields_free rfl (fun w => ?_)⟩⟩ ?_
    focus ((try simp only [factsL, pickF, Det, and_true] at hf); (try simp only [putL, Act.put, List.setIfInBounds_toArray, List.set_cons_zero, List.set_cons_succ]); (try simp only [hf]); go_simp)
    refine And.intro ⟨[], by kernel_rfl, fun xs W hW hf K hK => opV_free rfl ?_⟩ ?_
    · simp only [factsL] at hf
      (try simp only [putL])
      go_simp
      exact hK.out _ _ ((Below.refl _ _).alloc (Nat.le_refl _) _) ⟨_, rfl, Blk.new _ _ _, hW.size⟩
    refine And.intro ⟨[(13, 45)], by kernel_rfl, fun xs W hW hf => ⟨_, det_rfl, yields_free rfl (fun w => ?_)⟩⟩ ?_
    focus ((try simp only [factsL, pickF, Det, and_true] at hf); (try simp only [putL, Act.put, List.setIfInBounds_toArray, List.set_cons_zero, List.set_cons_succ]); (try simp only [hf]); go_simp)
    trivial
  case hst => exact ⟨det_stays, det_stays, det_stays, det_stays, OwnM.stays, det_stays, det_stays, OwnM.stays, det_stays, IntsF.stays, det_stays, det_stays, det_stays, det_stays, newB_stays, noF_stays, det_stays, trivial⟩
  case hend =>
    intro xs W hW hf
    simp only [factsA, Det, noF, Nat.zero_add, Nat.reduceAdd, and_true, true_and] at hf
    obtain ⟨f0, f1, f2, f3, f4, f5, f6, f7, f8, f9, f10, f11, f12, f13, ⟨b7, f14, g7, hz7⟩, f16⟩ := hf
    refine opV_free rfl ?_
    (simp only [putL, Act.put, upd, List.setIfInBounds_toArray, List.set_cons_zero, List.set_cons_succ])
    simp only [f0, f1, f2, f3, f5, f6, f8, f10, f11, f12, f13, f14, f16]
    have hB0 := g7.free 0; have hB1 := g7.free 1
    have hC0 := g7.cell 0; have hC1 := g7.cell 1
    simp at hC0 hC1
    have hl3 : b3 < V1.heap.size := g.lt
    have g := g.below hW hl3
    have hW3 := hW.size
    go_simp
    refine gen_w (fun W' => Blk W' b3 #[.int .i64 a.kind, .slice a.a a.rows.length a.c, .int .i64 a.after, .int .i64 b.kind, .slice b.a b.rows.length b.c, .int .i64 b.after, .int .i64 c.n, .int .i64 c.d] 29 ∧ Below w.heap.size w W' ∧ Blk W' b7 #[.int .i64 rn, .int .i64 rd] 27) ⟨(g.far ⟨b7, 0, none⟩ (by show b3 ≠ b7; omega) _).far ⟨b7, 1, none⟩ (by show b3 ≠ b7; omega) _, ((bl2 hw hW).setCell (p := ⟨b7, 0, none⟩) (by show w.heap.size ≤ b7; have := hw.size; omega) _).setCell (p := ⟨b7, 1, none⟩) (by show w.heap.size ≤ b7; have := hw.size; omega) _, by have := (g7.set 0 (.int .i64 rn)).set 1 (.int .i64 rd); simp at this; exact this⟩ ?_
    clear g7 hB0 hB1 hC0 hC1 g hW hS hW3 hw f0 f1 f2 f3 f4 f5 f6 f7 f8 f9 f10 f11 f12 f13 f14 f16
    rintro V2 ⟨g, hw, g7⟩
    have hl7 := g7.lt; have hl3 := g.lt
    by_cases hre : re = 0
    · obtain ⟨h1, h2, h3⟩ := bel_law (c := c) (a := a.m) (b := b.m) (l := l) (n := rn) (d := rd) (by rw [← HRES.out, hre])
      subst hre
      obtain ⟨K, hK⟩ : ∃ q, q = cmpM a.m b.m l := ⟨_, rfl⟩
      obtain ⟨J, hJ⟩ : ∃ q, q = (if 0 < c.n ∧ c.n < c.d then K else 0) := ⟨_, rfl⟩
      rw [← hK] at h1 h3
      rw [← hJ] at h3
      have HCM : Hid (∀ W (y1 y2 : Md) B k, y1.m = a.m → y2.m = b.m → y1.reads W W.heap.size → y2.reads W W.heap.size → Sl intCell 1 W W.heap.size B l → Calls Try.prog 13 #[.agg #[.int .i64 y1.kind, .slice y1.a y1.rows.length y1.c, .int .i64 y1.after], .agg #[.int .i64 y2.kind, .slice y2.a y2.rows.length y2.c, .int .i64 y2.after], .slice B l.length k] W fun e w' => e = .returned (.tuple #[.int .i64 K, .int .i64 0]) ∧ Below W.heap.size W w') := Lib.hid fun W y1 y2 B k e1 e2 e3 e4 e5 => by
        have := habCmp_any y1 y2 l B k W (by omega) e3 e4 e5
        rw [e1, e2, h1] at this
        exact this
      have HOC : Hid (∀ W, Calls Try.prog 26 #[.agg #[.int .i64 rn, .int .i64 rd], .agg #[.int .i64 c.n, .int .i64 c.d]] W fun e w' => e = .returned (.tuple #[.int .i64 J, .int .i64 0]) ∧ Below W.heap.size W w') := Lib.hid fun W => by
        have := compare_any ⟨rn, rd⟩ c W
        rw [h3] at this
        exact this
      have HJ := Lib.hid hJ
      have HOk := Lib.hid h2
      clear h1 h2 h3 hK hJ
      go_upto_region 6 with fail
      have hS : ∀ W, Below V2.heap.size V2 W → W.cell? ⟨b3, 0, none⟩ = some (.int .i64 a.kind) ∧ W.cell? ⟨b3, 1, none⟩ = some (.slice a.a a.rows.length a.c) ∧ W.cell? ⟨b3, 2, none⟩ = some (.int .i64 a.after) ∧ W.cell? ⟨b3, 3, none⟩ = some (.int .i64 b.kind) ∧ W.cell? ⟨b3, 4, none⟩ = some (.slice b.a b.rows.length b.c) ∧ W.cell? ⟨b3, 5, none⟩ = some (.int .i64 b.after) ∧ W.cell? ⟨b3, 6, none⟩ = some (.int .i64 c.n) ∧ W.cell? ⟨b3, 7, none⟩ = some (.int .i64 c.d) := fun W hW => by
        have g := g.below hW g.lt
        (have z0 := g.cell 0; have z1 := g.cell 1; have z2 := g.cell 2; have z3 := g.cell 3; have z4 := g.cell 4; have z5 := g.cell 5; have z6 := g.cell 6; have z7 := g.cell 7; simp at z0 z1 z2 z3 z4 z5 z6 z7)
        exact ⟨z0, z1, z2, z3, z4, z5, z6, z7⟩
      refine' wp_region_planE [.eff, .eff, .eff, .eff, .eff, .eff, .eff, .eff, .eff, .eff, .eff, .eff, .eff, .eff] [Det _, Det _, OwnM a.m, Det _, Det _, OwnM b.m, Det _, IntsF l l.length, Det (.tuple #[.int .i64 K, .int .i64 0]), Det (.tuple #[.int .i64 K, .int .i64 0]), Det (.int .i64 K), Det (.int .i64 0), Det _, Det _] [(13, 8), (12, 9), (11, 65), (10, 64), (9, 54), (8, 63), (7, 62), (6, 61), (5, 60), (4, 59), (3, 58), (2, 57), (1, 56), (0, 55)] (by kernel_rfl) (by kernel_rfl) (by kernel_rfl) (by kernel_rfl) (by kernel_rfl) (by kernel_rfl) (by kernel_rfl) ?hp2 ?hend2 ?hst2
      case hp2 =>
        refine And.intro ⟨[], by kernel_rfl, fun xs W hW hf K hK => opV_free rfl ?_⟩ ?_
        focus (have hs := hS W hW; (try simp only [factsL] at hf); (try simp only [putL]); (try simp only [hf]); go_simp; refine hK.out _ _ (Below.refl _ _) ?_; unfold Det; rfl)
        refine And.intro ⟨[(0, 55)], by kernel_rfl, fun xs W hW hf K hK => opV_free rfl ?_⟩ ?_
        focus (have hs := hS W hW; (try simp only [factsL, pickF, Det, and_true] at hf); (try simp only [putL, Act.put, List.setIfInBounds_toArray, List.set_cons_zero, List.set_cons_succ]); (try simp only [hf]); go_simp; refine hK.out _ _ (Below.refl _ _) ?_; unfold Det; rfl)
        refine And.intro ⟨[(1, 56)], by kernel_rfl, fun xs W hW hf K hK => opV_free rfl ?_⟩ ?_
        · simp only [factsL, pickF, Det, and_true] at hf
          (try simp only [putL, Act.put, List.setIfInBounds_toArray, List.set_cons_zero, List.set_cons_succ])
          simp only [hf]
          go_simp
          refine (HOA.out _ (bl2 hw hW)).mono ?_
          rintro _ w9 ⟨y, rfl, hy, hr, hb9⟩
          exact ⟨_, rfl, hK.out _ _ hb9 ⟨y, rfl, hy, hr⟩⟩
        refine And.intro ⟨[], by kernel_rfl, fun xs W hW hf K hK => opV_free rfl ?_⟩ ?_
        focus (have hs := hS W hW; (try simp only [factsL] at hf); (try simp only [putL]); (try simp only [hf]); go_simp; refine hK.out _ _ (Below.refl _ _) ?_; unfold Det; rfl)
        refine And.intro ⟨[(3, 58)], by kernel_rfl, fun xs W hW hf K hK => opV_free rfl ?_⟩ ?_
        focus (have hs := hS W hW; (try simp only [factsL, pickF, Det, and_true] at hf); (try simp only [putL, Act.put, List.setIfInBounds_toArray, List.set_cons_zero, List.set_cons_succ]); (try simp only [hf]); go_simp; refine hK.out _ _ (Below.refl _ _) ?_; unfold Det; rfl)
        refine And.intro ⟨[(4, 59)], by kernel_rfl, fun xs W hW hf K hK => opV_free rfl ?_⟩ ?_
        · simp only [factsL, pickF, Det, and_true] at hf
          (try simp only [putL, Act.put, List.setIfInBounds_toArray, List.set_cons_zero, List.set_cons_succ])
          simp only [hf]
          go_simp
          refine (HOB.out _ (bl2 hw hW)).mono ?_
          rintro _ w9 ⟨y, rfl, hy, hr, hb9⟩
          exact ⟨_, rfl, hK.out _ _ hb9 ⟨y, rfl, hy, hr⟩⟩
        refine And.intro ⟨[], by kernel_rfl, fun xs W hW hf K hK => opV_free rfl ?_⟩ ?_
        focus (have hs := hS W hW; (try simp only [factsL] at hf); (try simp only [putL]); (try simp only [hf]); go_simp; refine hK.out _ _ (Below.refl _ _) ?_; unfold Det; rfl)
        refine And.intro ⟨[(6, 61)], by kernel_rfl, fun xs W hW hf K hK => opV_free rfl ?_⟩ ?_
        · simp only [factsL, pickF, Det, and_true] at hf
          (try simp only [putL, Act.put, List.setIfInBounds_toArray, List.set_cons_zero, List.set_cons_succ])
          simp only [hf]
          go_simp
          refine (HIN.out _ (bl2 hw hW)).mono ?_
          rintro _ w9 ⟨B, k, rfl, hs, -, -, -, hb9⟩
          exact ⟨_, rfl, hK.out _ _ hb9 ⟨B, k, rfl, hs⟩⟩
        refine And.intro ⟨[(7, 62), (5, 60), (2, 57)], by kernel_rfl, fun xs W hW hf K hK => opV_free rfl ?_⟩ ?_
        · simp only [factsL, pickF, and_true] at hf
          (try simp only [putL, Act.put, List.setIfInBounds_toArray, List.set_cons_zero, List.set_cons_succ])
          obtain ⟨⟨B, k, e1, hs⟩, ⟨y2, e2, hy2, hr2⟩, ⟨y1, e3, hy1, hr1⟩⟩ := hf
          simp only [e1, e2, e3]
          go_simp
          refine (HCM.out _ y1 y2 B k hy1 hy2 hr1 hr2 hs).mono ?_
          rintro _ w9 ⟨rfl, hb9⟩
          exact ⟨_, rfl, hK.out _ _ hb9 rfl⟩
        refine And.intro ⟨[(8, 63)], by kernel_rfl, fun xs W hW hf K hK => opV_free rfl ?_⟩ ?_
        focus (have hs := hS W hW; (try simp only [factsL, pickF, Det, and_true] at hf); (try simp only [putL, Act.put, List.setIfInBounds_toArray, List.set_cons_zero, List.set_cons_succ]); (try simp only [hf]); go_simp; refine hK.out _ _ (Below.refl _ _) ?_; unfold Det; rfl)
        refine And.intro ⟨[(9, 54)], by kernel_rfl, fun xs W hW hf K hK => opV_free rfl ?_⟩ ?_
        focus (have hs := hS W hW; (try simp only [factsL, pickF, Det, and_true] at hf); (try simp only [putL, Act.put, List.setIfInBounds_toArray, List.set_cons_zero, List.set_cons_succ]); (try simp only [hf]); go_simp; refine hK.out _ _ (Below.refl _ _) ?_; unfold Det; rfl)
        refine And.intro ⟨[(9, 54)], by kernel_rfl, fun xs W hW hf K hK => opV_free rfl ?_⟩ ?_
        focus (have hs := hS W hW; (try simp only [factsL, pickF, Det, and_true] at hf); (try simp only [putL, Act.put, List.setIfInBounds_toArray, List.set_cons_zero, List.set_cons_succ]); (try simp only [hf]); go_simp; refine hK.out _ _ (Below.refl _ _) ?_; unfold Det; rfl)
        refine And.intro ⟨[(10, 64)], by kernel_rfl, fun xs W hW hf K hK => opV_free rfl ?_⟩ ?_
        focus (have hs := hS W hW; (try simp only [factsL, pickF, Det, and_true] at hf); (try simp only [putL, Act.put, List.setIfInBounds_toArray, List.set_cons_zero, List.set_cons_succ]); (try simp only [hf]); go_simp; refine hK.out _ _ (Below.refl _ _) ?_; unfold Det; rfl)
        refine And.intro ⟨[(11, 65)], by kernel_rfl, fun xs W hW hf K hK => opV_free rfl ?_⟩ ?_
        focus (have hs := hS W hW; (try simp only [factsL, pickF, Det, and_true] at hf); (try simp only [putL, Act.put, List.setIfInBounds_toArray, List.set_cons_zero, List.set_cons_succ]); (try simp only [hf]); go_simp; refine hK.out _ _ (Below.refl _ _) ?_; unfold Det; rfl)
        trivial
      case hst2 => exact ⟨det_stays, det_stays, OwnM.stays, det_stays, det_stays, OwnM.stays, det_stays, IntsF.stays, det_stays, det_stays, det_stays, det_stays, det_stays, det_stays, trivial⟩
      case hend2 =>
        intro xs W hW hf
        simp only [factsA, Det, Nat.zero_add, Nat.reduceAdd, and_true] at hf
        obtain ⟨f0, f1, f2, f3, f4, f5, f6, f7, f8, f9, f10, f11, f12, f13⟩ := hf
        (simp only [putL, Act.put, List.setIfInBounds_toArray, List.set_cons_zero, List.set_cons_succ])
        simp only [f0, f1, f3, f4, f6, f8, f9, f10, f11, f12, f13]
        refine gen_w (fun W' => Blk W' b3 #[.int .i64 a.kind, .slice a.a a.rows.length a.c, .int .i64 a.after, .int .i64 b.kind, .slice b.a b.rows.length b.c, .int .i64 b.after, .int .i64 c.n, .int .i64 c.d] 29 ∧ Below w.heap.size w W' ∧ Blk W' b7 #[.int .i64 rn, .int .i64 rd] 27) ⟨g.below hW hl3, bl2 hw hW, g7.below hW hl7⟩ ?_
        clear g g7 hw hW hS f0 f1 f2 f3 f4 f5 f6 f7 f8 f9 f10 f11 f12 f13 hl3 hl7
        rintro V3 ⟨g, hw, g7⟩
        have hl7 := g7.lt; have hl3 := g.lt
        (have z0 := g.cell 0; have z1 := g.cell 1; have z2 := g.cell 2; have z3 := g.cell 3; have z4 := g.cell 4; have z5 := g.cell 5; have z6 := g.cell 6; have z7 := g.cell 7; simp at z0 z1 z2 z3 z4 z5 z6 z7)
        have x0 := g7.cell 0; have x1 := g7.cell 1
        simp at x0 x1
        go_upto_region 8 with (first | (go_at_call 26; refine (HOC.out _).mono ?_; rintro _ w4 ⟨rfl, hb4⟩; have hw := bl2 hw hb4; have g := g.below hb4 hl3; have g7 := g7.below hb4 hl7) | fail)
        by_cases hi : 0 < c.n ∧ c.n < c.d
        · have hJ := HJ.out
          rw [if_pos hi] at hJ
          subst hJ
          have p1 : decide (0 < c.n) = true := by simp; omega
          have p2 : decide (c.n < c.d) = true := by simp; omega
          have p3 : (J != J) = false := by simp
          clear z0 z1 z2 z3 z4 z5 z6 z7 hi
          (have z0 := g.cell 0; have z1 := g.cell 1; have z2 := g.cell 2; have z3 := g.cell 3; have z4 := g.cell 4; have z5 := g.cell 5; have z6 := g.cell 6; have z7 := g.cell 7; simp at z0 z1 z2 z3 z4 z5 z6 z7)
          as_aux_lemma =>
            go_upto_region 13 with fail
            clear z0 z1 z2 z3 z4 z5 z6 z7
            (have z0 := g.cell 0; have z1 := g.cell 1; have z2 := g.cell 2; have z3 := g.cell 3; have z4 := g.cell 4; have z5 := g.cell 5; have z6 := g.cell 6; have z7 := g.cell 7; simp at z0 z1 z2 z3 z4 z5 z6 z7)
            by_cases hka : a.kind = 1
            rotate_left 1
            · have hQk : (a.kind == 1) = false := by simp; exact hka
              go_wp2_with (first | (go_at_call 12; refine (known_any _).mono ?_; rintro _ w9 ⟨rfl, hb9⟩; have hw := bl2 hw hb9) | fail)
              refine bodyPost_ret (v := .bool true) (by simp [results, Try.results6, go_sem]) rfl ?_
              exact ⟨rfl, hw⟩
            have hQk : (a.kind == 1) = true := by simp; exact hka
            by_cases hkb : b.kind = 1
            rotate_left 1
            · have hQl : (b.kind == 1) = false := by simp; exact hkb
              go_wp2_with (first | (go_at_call 12; refine (known_any _).mono ?_; rintro _ w9 ⟨rfl, hb9⟩; have hw := bl2 hw hb9) | fail)
              refine bodyPost_ret (v := .bool true) (by simp [results, Try.results6, go_sem]) rfl ?_
              exact ⟨rfl, hw⟩
            have hQl : (b.kind == 1) = true := by simp; exact hkb
            have hl8 : l.length ≤ 60 := by omega
            have hw1 : IntKind.i64.wrap ((l.length : Int) + 1) = (l.length : Int) + 1 := IntWalk.i64_in _ ⟨by omega, by omega⟩
            have hw2 : IntKind.i64.wrap cut = cut := IntWalk.i64_in _ ⟨by omega, by omega⟩
            have hne1 : ((l.length : Int) + 1 == 0) = false := by simp; omega
            obtain ⟨k, hk, hkl⟩ : ∃ k : Nat, cut.tmod ((l.length : Int) + 1) = (k : Int) ∧ k ≤ l.length := by
              have e1 : cut.tmod ((l.length : Int) + 1) = cut % ((l.length : Int) + 1) := Int.tmod_eq_emod_of_nonneg hc0
              have e2 := Int.emod_nonneg cut (show ((l.length : Int) + 1) ≠ 0 by omega)
              have e3 := Int.emod_lt_of_pos cut (show 0 < ((l.length : Int) + 1) by omega)
              exact ⟨(cut.tmod ((l.length : Int) + 1)).toNat, by omega, by omega⟩
            clear z0 z1 z2 z3 z4 z5 z6 z7
            (have z0 := g.cell 0; have z1 := g.cell 1; have z2 := g.cell 2; have z3 := g.cell 3; have z4 := g.cell 4; have z5 := g.cell 5; have z6 := g.cell 6; have z7 := g.cell 7; simp at z0 z1 z2 z3 z4 z5 z6 z7)
            go_upto_region 15 with fail
            obtain ⟨n1, d1, hp1, hp2⟩ := bel_parts (c := c) (a := a.m) (b := b.m) (l := l) (n := rn) (d := rd) hka hkb HRES.out.symm k
            have hlt : (l.take k).length = k := by simp; omega
            have hld : (l.drop k).length = l.length - k := by simp
            have HTL : Hid (Sl intCell 1 w w.heap.size lA (l.take k)) := Lib.hid (sl_takeI HL.out hkl)
            have HIT : Hid (∀ W, Below w.heap.size w W → Calls Try.prog 15 #[.slice lA k lc] W fun e w' => ∃ B q, e = .returned (.slice B k q) ∧ Sl intCell 1 w' w'.heap.size B (l.take k) ∧ (B = none → q = 0) ∧ (l.take k).length ≤ q ∧ w'.ownsRow W.heap.size 3 1 (.slice B (l.take k).length q) (l.take k).length (flat intCell (l.take k)) ∧ Below W.heap.size W w') := Lib.hid fun W hW => lints_any lA lc k (l.take k) W hlt (by omega) HLN.out ((HTL.out.below hW).more hW.size)
            obtain ⟨A5, hA1, hA2⟩ := HL.out.from_ (fun _ => rfl) k lc hlc
            have hsl5 := fun W => ints_slice lA l.length lc k W hkl
            rw [hA1] at hsl5
            have hn5 : A5 = none → lc - k = 0 := fun e => by
              subst e
              rcases hA : lA with _ | ad
              · have := HLN.out hA; omega
              · rw [hA] at hA1
                simp only [sliced] at hA1
                split at hA1
                · rename_i h9
                  have := congrArg (fun v => match v with | .slice _ _ c => c | _ => 0) hA1
                  simp at this
                  omega
                · simp at hA1
            have HID : Hid (∀ W, Below w.heap.size w W → Calls Try.prog 15 #[.slice A5 (l.length - k) (lc - k)] W fun e w' => ∃ B q, e = .returned (.slice B (l.length - k) q) ∧ Sl intCell 1 w' w'.heap.size B (l.drop k) ∧ (B = none → q = 0) ∧ (l.drop k).length ≤ q ∧ w'.ownsRow W.heap.size 3 1 (.slice B (l.drop k).length q) (l.drop k).length (flat intCell (l.drop k)) ∧ Below W.heap.size W w') := Lib.hid fun W hW => lints_any A5 (lc - k) (l.length - k) (l.drop k) W hld (by omega) hn5 ((hA2.below hW).more hW.size)
            have HB1 : Hid (∀ W (y1 y2 : Md) B q, y1.m = a.m → y2.m = b.m → y1.reads W W.heap.size → y2.reads W W.heap.size → Sl intCell 1 W W.heap.size B (l.take k) → Calls Try.prog 16 #[.agg #[.int .i64 c.n, .int .i64 c.d], .agg #[.int .i64 y1.kind, .slice y1.a y1.rows.length y1.c, .int .i64 y1.after], .agg #[.int .i64 y2.kind, .slice y2.a y2.rows.length y2.c, .int .i64 y2.after], .slice B k q] W (RetC (n1, d1, 0) W)) := Lib.hid fun W y1 y2 B q h1 h2 h3 h4 h5 => by
              have := belF_any c y1 y2 (l.take k) B q W (by omega) h3 h4 h5
              rw [h1, h2, hp1, hlt] at this
              exact this
            have HB2 : Hid (∀ W (y1 y2 : Md) B q, y1.m = a.m → y2.m = b.m → y1.reads W W.heap.size → y2.reads W W.heap.size → Sl intCell 1 W W.heap.size B (l.drop k) → Calls Try.prog 16 #[.agg #[.int .i64 n1, .int .i64 d1], .agg #[.int .i64 y1.kind, .slice y1.a y1.rows.length y1.c, .int .i64 y1.after], .agg #[.int .i64 y2.kind, .slice y2.a y2.rows.length y2.c, .int .i64 y2.after], .slice B (l.length - k) q] W (RetC (rn, rd, 0) W)) := Lib.hid fun W y1 y2 B q h1 h2 h3 h4 h5 => by
              have := belF_any ⟨n1, d1⟩ y1 y2 (l.drop k) B q W (by omega) h3 h4 h5
              rw [h1, h2, hp2, hld] at this
              exact this
            have hs15 : ∀ W, (Instr.slice 30 (.slice lA l.length lc) none (some (.int .i64 (k : Int))) none).run Try.prog W = .ok (.slice lA k lc) W := fun W => ints_to lA l.length lc k W hkl hlc
            clear hka hkb hQk hQl hp1 hp2 hlt hld hA1 hA2 hn5 z0 z1 z2 z3 z4 z5 z6 z7 hk hw1 hw2 hne1
            clear x0 x1
            refine gen_w (fun W' => Blk W' b3 #[.int .i64 a.kind, .slice a.a a.rows.length a.c, .int .i64 a.after, .int .i64 b.kind, .slice b.a b.rows.length b.c, .int .i64 b.after, .int .i64 c.n, .int .i64 c.d] 29 ∧ Below w.heap.size w W' ∧ Blk W' b7 #[.int .i64 rn, .int .i64 rd] 27) ⟨g, hw, g7⟩ ?_
            clear g g7 hw hl3 hl7
            rintro V5 ⟨g, hw, g7⟩
            have hl7 := g7.lt; have hl3 := g.lt
            have hS : ∀ W, Below V5.heap.size V5 W → W.cell? ⟨b3, 0, none⟩ = some (.int .i64 a.kind) ∧ W.cell? ⟨b3, 1, none⟩ = some (.slice a.a a.rows.length a.c) ∧ W.cell? ⟨b3, 2, none⟩ = some (.int .i64 a.after) ∧ W.cell? ⟨b3, 3, none⟩ = some (.int .i64 b.kind) ∧ W.cell? ⟨b3, 4, none⟩ = some (.slice b.a b.rows.length b.c) ∧ W.cell? ⟨b3, 5, none⟩ = some (.int .i64 b.after) ∧ W.cell? ⟨b3, 6, none⟩ = some (.int .i64 c.n) ∧ W.cell? ⟨b3, 7, none⟩ = some (.int .i64 c.d) := fun W hW => by
              have g := g.below hW hl3
              (have z0 := g.cell 0; have z1 := g.cell 1; have z2 := g.cell 2; have z3 := g.cell 3; have z4 := g.cell 4; have z5 := g.cell 5; have z6 := g.cell 6; have z7 := g.cell 7; simp at z0 z1 z2 z3 z4 z5 z6 z7)
              exact ⟨z0, z1, z2, z3, z4, z5, z6, z7⟩
            refine' wp_region_plan 17 [16, 14, 13, 12, 11, 10, 9, 8, 7, 6, 5, 4, 3, 2, 1, 0] [.eff, .eff, .eff, .eff, .eff, .eff, .eff, .eff, .eff, .eff, .eff, .eff, .eff, .eff, .eff, .pur, .eff, .last, .post] [Det _, Det _, Det _, Det _, OwnM a.m, Det _, Det _, OwnM b.m, Det _, Det _, Det (.slice lA k lc), IntsF (l.take k) k, Det (.tuple #[.agg #[.int .i64 n1, .int .i64 d1], .int .i64 0]), Det (.tuple #[.agg #[.int .i64 n1, .int .i64 d1], .int .i64 0]), Det (.agg #[.int .i64 n1, .int .i64 d1]), Det (.int .i64 0), newB V5 #[.int .i64 0, .int .i64 0] 27, noF, Det (.int .i64 0)] (by rfl) [(16, 14), (14, 136)] [(18, 15), (16, 14), (15, 137), (14, 136), (13, 122), (12, 135), (11, 134), (10, 133), (9, 132), (8, 131), (7, 130), (6, 129), (5, 128), (4, 127), (3, 126), (2, 125), (1, 124), (0, 123)] (by kernel_rfl) (by kernel_rfl) (by kernel_rfl) (by kernel_rfl) (by kernel_rfl) (by kernel_rfl) (by kernel_rfl) (by kernel_rfl) (by kernel_rfl) rfl ?hpq ?hendq ?hstq
            case hpq =>
              refine And.intro ⟨[], by kernel_rfl, fun xs W hW hf K hK => opV_free rfl ?_⟩ ?_
              focus (have hs := hS W hW; (try simp only [factsL] at hf); (try simp only [putL]); (try simp only [hf]); go_simp; refine hK.out _ _ (Below.refl _ _) ?_; unfold Det; rfl)
              refine And.intro ⟨[(0, 123)], by kernel_rfl, fun xs W hW hf K hK => opV_free rfl ?_⟩ ?_
              focus (have hs := hS W hW; (try simp only [factsL, pickF, Det, and_true] at hf); (try simp only [putL, Act.put, List.setIfInBounds_toArray, List.set_cons_zero, List.set_cons_succ]); (try simp only [hf]); go_simp; refine hK.out _ _ (Below.refl _ _) ?_; unfold Det; rfl)
              refine And.intro ⟨[], by kernel_rfl, fun xs W hW hf K hK => opV_free rfl ?_⟩ ?_
              focus (have hs := hS W hW; (try simp only [factsL] at hf); (try simp only [putL]); (try simp only [hf]); go_simp; refine hK.out _ _ (Below.refl _ _) ?_; unfold Det; rfl)
              refine And.intro ⟨[(2, 125)], by kernel_rfl, fun xs W hW hf K hK => opV_free rfl ?_⟩ ?_
              focus (have hs := hS W hW; (try simp only [factsL, pickF, Det, and_true] at hf); (try simp only [putL, Act.put, List.setIfInBounds_toArray, List.set_cons_zero, List.set_cons_succ]); (try simp only [hf]); go_simp; refine hK.out _ _ (Below.refl _ _) ?_; unfold Det; rfl)
              refine And.intro ⟨[(3, 126)], by kernel_rfl, fun xs W hW hf K hK => opV_free rfl ?_⟩ ?_
              · simp only [factsL, pickF, Det, and_true] at hf
                (try simp only [putL, Act.put, List.setIfInBounds_toArray, List.set_cons_zero, List.set_cons_succ])
                simp only [hf]
                go_simp
                refine (HOA.out _ (bl2 hw hW)).mono ?_
                rintro _ w9 ⟨y, rfl, hy, hr, hb9⟩
                exact ⟨_, rfl, hK.out _ _ hb9 ⟨y, rfl, hy, hr⟩⟩
              refine And.intro ⟨[], by kernel_rfl, fun xs W hW hf K hK => opV_free rfl ?_⟩ ?_
              focus (have hs := hS W hW; (try simp only [factsL] at hf); (try simp only [putL]); (try simp only [hf]); go_simp; refine hK.out _ _ (Below.refl _ _) ?_; unfold Det; rfl)
              refine And.intro ⟨[(5, 128)], by kernel_rfl, fun xs W hW hf K hK => opV_free rfl ?_⟩ ?_
              focus (have hs := hS W hW; (try simp only [factsL, pickF, Det, and_true] at hf); (try simp only [putL, Act.put, List.setIfInBounds_toArray, List.set_cons_zero, List.set_cons_succ]); (try simp only [hf]); go_simp; refine hK.out _ _ (Below.refl _ _) ?_; unfold Det; rfl)
              refine And.intro ⟨[(6, 129)], by kernel_rfl, fun xs W hW hf K hK => opV_free rfl ?_⟩ ?_
              · simp only [factsL, pickF, Det, and_true] at hf
                (try simp only [putL, Act.put, List.setIfInBounds_toArray, List.set_cons_zero, List.set_cons_succ])
                simp only [hf]
                go_simp
                refine (HOB.out _ (bl2 hw hW)).mono ?_
                rintro _ w9 ⟨y, rfl, hy, hr, hb9⟩
                exact ⟨_, rfl, hK.out _ _ hb9 ⟨y, rfl, hy, hr⟩⟩
              refine And.intro ⟨[], by kernel_rfl, fun xs W hW hf K hK => opV_free rfl ?_⟩ ?_
              focus (have hs := hS W hW; (try simp only [factsL] at hf); (try simp only [putL]); (try simp only [hf]); go_simp; refine hK.out _ _ (Below.refl _ _) ?_; unfold Det; rfl)
              refine And.intro ⟨[], by kernel_rfl, fun xs W hW hf K hK => opV_free rfl ?_⟩ ?_
              focus (have hs := hS W hW; (try simp only [factsL] at hf); (try simp only [putL]); (try simp only [hf]); go_simp; refine hK.out _ _ (Below.refl _ _) ?_; unfold Det; rfl)
              refine And.intro ⟨[(9, 132), (8, 131)], by kernel_rfl, fun xs W hW hf K hK => opV_free rfl ?_⟩ ?_
              focus (have hs := hS W hW; (try simp only [factsL, pickF, Det, and_true] at hf); (try simp only [putL, Act.put, List.setIfInBounds_toArray, List.set_cons_zero, List.set_cons_succ]); (try simp only [hf]); go_simp; refine hK.out _ _ (Below.refl _ _) ?_; unfold Det; rfl)
              refine And.intro ⟨[(10, 133)], by kernel_rfl, fun xs W hW hf K hK => opV_free rfl ?_⟩ ?_
              · simp only [factsL, pickF, Det, and_true] at hf
                (try simp only [putL, Act.put, List.setIfInBounds_toArray, List.set_cons_zero, List.set_cons_succ])
                simp only [hf]
                go_simp
                refine (HIT.out _ (bl2 hw hW)).mono ?_
                rintro _ w9 ⟨B, k, rfl, hs, -, -, -, hb9⟩
                exact ⟨_, rfl, hK.out _ _ hb9 ⟨B, k, rfl, hs⟩⟩
              refine And.intro ⟨[(11, 134), (7, 130), (4, 127), (1, 124)], by kernel_rfl, fun xs W hW hf K hK => opV_free rfl ?_⟩ ?_
              · simp only [factsL, pickF, Det, and_true] at hf
                (try simp only [putL, Act.put, List.setIfInBounds_toArray, List.set_cons_zero, List.set_cons_succ])
                obtain ⟨⟨B, k, e1, hs⟩, ⟨y2, e2, hy2, hr2⟩, ⟨y1, e3, hy1, hr1⟩, e4⟩ := hf
                simp only [e1, e2, e3, e4]
                go_simp
                refine (HB1.out _ y1 y2 B k hy1 hy2 hr1 hr2 hs).mono ?_
                rintro _ w9 ⟨rfl, hb9⟩
                exact ⟨_, rfl, hK.out _ _ hb9 rfl⟩
              refine And.intro ⟨[(12, 135)], by kernel_rfl, fun xs W hW hf K hK => opV_free rfl ?_⟩ ?_
              focus (have hs := hS W hW; (try simp only [factsL, pickF, Det, and_true] at hf); (try simp only [putL, Act.put, List.setIfInBounds_toArray, List.set_cons_zero, List.set_cons_succ]); (try simp only [hf]); go_simp; refine hK.out _ _ (Below.refl _ _) ?_; unfold Det; rfl)
              refine And.intro ⟨[(13, 122)], by kernel_rfl, fun xs W hW hf K hK => opV_free rfl ?_⟩ ?_
              focus (have hs := hS W hW; (try simp only [factsL, pickF, Det, and_true] at hf); (try simp only [putL, Act.put, List.setIfInBounds_toArray, List.set_cons_zero, List.set_cons_succ]); (try simp only [hf]); go_simp; refine hK.out _ _ (Below.refl _ _) ?_; unfold Det; rfl)
              refine And.intro ⟨[(13, 122)], by kernel_rfl, fun xs W hW hf => ⟨_, det_rfl, yields_free rfl (fun w => ?_)⟩⟩ ?_
              focus ((try simp only [factsL, pickF, Det, and_true] at hf); (try simp only [putL, Act.put, List.setIfInBounds_toArray, List.set_cons_zero, List.set_cons_succ]); (try simp only [hf]); go_simp)
              refine And.intro ⟨[], by kernel_rfl, fun xs W hW hf K hK => opV_free rfl ?_⟩ ?_
              · simp only [factsL] at hf
                (try simp only [putL])
                go_simp
                exact hK.out _ _ ((Below.refl _ _).alloc (Nat.le_refl _) _) ⟨_, rfl, Blk.new _ _ _, hW.size⟩
              refine And.intro ⟨[(15, 137)], by kernel_rfl, fun xs W hW hf => ⟨_, det_rfl, yields_free rfl (fun w => ?_)⟩⟩ ?_
              focus ((try simp only [factsL, pickF, Det, and_true] at hf); (try simp only [putL, Act.put, List.setIfInBounds_toArray, List.set_cons_zero, List.set_cons_succ]); (try simp only [hf]); go_simp)
              trivial
            case hstq => exact ⟨det_stays, det_stays, det_stays, det_stays, OwnM.stays, det_stays, det_stays, OwnM.stays, det_stays, det_stays, det_stays, IntsF.stays, det_stays, det_stays, det_stays, det_stays, newB_stays, noF_stays, det_stays, trivial⟩
            case hendq =>
              intro xs W hW hf
              simp only [factsA, Det, noF, Nat.zero_add, Nat.reduceAdd, and_true, true_and] at hf
              obtain ⟨f0, f1, f2, f3, f4, f5, f6, f7, f8, f9, f10, f11, f12, f13, f14, f15, ⟨b14, f16, g14, hz14⟩, f18⟩ := hf
              refine opV_free rfl ?_
              (simp only [putL, Act.put, upd, List.setIfInBounds_toArray, List.set_cons_zero, List.set_cons_succ])
              simp only [f0, f1, f2, f3, f5, f6, f8, f9, f10, f12, f13, f14, f15, f16, f18]
              have hB0 := g14.free 0; have hB1 := g14.free 1
              have hC0 := g14.cell 0; have hC1 := g14.cell 1
              simp at hC0 hC1
              have g := g.below hW hl3
              have g7 := g7.below hW hl7
              have hW3 := hW.size
              go_simp
              refine gen_w (fun W' => Blk W' b3 #[.int .i64 a.kind, .slice a.a a.rows.length a.c, .int .i64 a.after, .int .i64 b.kind, .slice b.a b.rows.length b.c, .int .i64 b.after, .int .i64 c.n, .int .i64 c.d] 29 ∧ Below w.heap.size w W' ∧ Blk W' b7 #[.int .i64 rn, .int .i64 rd] 27 ∧ Blk W' b14 #[.int .i64 n1, .int .i64 d1] 27) ⟨(g.far ⟨b14, 0, none⟩ (by show b3 ≠ b14; omega) _).far ⟨b14, 1, none⟩ (by show b3 ≠ b14; omega) _, ((bl2 hw hW).setCell (p := ⟨b14, 0, none⟩) (by show w.heap.size ≤ b14; have := hw.size; omega) _).setCell (p := ⟨b14, 1, none⟩) (by show w.heap.size ≤ b14; have := hw.size; omega) _, (g7.far ⟨b14, 0, none⟩ (by show b7 ≠ b14; omega) _).far ⟨b14, 1, none⟩ (by show b7 ≠ b14; omega) _, by have := (g14.set 0 (.int .i64 n1)).set 1 (.int .i64 d1); simp at this; exact this⟩ ?_
              clear g7 g14 hB0 hB1 hC0 hC1 g hW hS hW3 hw f0 f1 f2 f3 f4 f5 f6 f7 f8 f9 f10 f11 f12 f13 f14 f15 f16 f18 hl3 hl7
              rintro V6 ⟨g, hw, g7, g14⟩
              have hl7 := g7.lt; have hl3 := g.lt; have hl14 := g14.lt
              go_upto_region 16 with fail
              have hS : ∀ W, Below V6.heap.size V6 W → W.cell? ⟨b3, 0, none⟩ = some (.int .i64 a.kind) ∧ W.cell? ⟨b3, 1, none⟩ = some (.slice a.a a.rows.length a.c) ∧ W.cell? ⟨b3, 2, none⟩ = some (.int .i64 a.after) ∧ W.cell? ⟨b3, 3, none⟩ = some (.int .i64 b.kind) ∧ W.cell? ⟨b3, 4, none⟩ = some (.slice b.a b.rows.length b.c) ∧ W.cell? ⟨b3, 5, none⟩ = some (.int .i64 b.after) ∧ W.cell? ⟨b3, 6, none⟩ = some (.int .i64 c.n) ∧ W.cell? ⟨b3, 7, none⟩ = some (.int .i64 c.d) ∧ W.cell? ⟨b14, 0, none⟩ = some (.int .i64 n1) ∧ W.cell? ⟨b14, 1, none⟩ = some (.int .i64 d1) := fun W hW => by
                have g := g.below hW hl3
                (have z0 := g.cell 0; have z1 := g.cell 1; have z2 := g.cell 2; have z3 := g.cell 3; have z4 := g.cell 4; have z5 := g.cell 5; have z6 := g.cell 6; have z7 := g.cell 7; simp at z0 z1 z2 z3 z4 z5 z6 z7)
                have g14 := g14.below hW hl14
                have y0 := g14.cell 0; have y1 := g14.cell 1
                simp at y0 y1
                exact ⟨z0, z1, z2, z3, z4, z5, z6, z7, y0, y1⟩
              refine' wp_region_plan 16 [15, 13, 12, 11, 10, 9, 8, 7, 6, 5, 4, 3, 2, 1, 0] [.eff, .eff, .eff, .eff, .eff, .eff, .eff, .eff, .eff, .eff, .eff, .eff, .eff, .eff, .pur, .eff, .last, .post] [Det _, Det _, Det _, OwnM a.m, Det _, Det _, OwnM b.m, Det _, Det _, Det (.slice A5 (l.length - k) (lc - k)), IntsF (l.drop k) (l.length - k), Det (.tuple #[.agg #[.int .i64 rn, .int .i64 rd], .int .i64 0]), Det (.tuple #[.agg #[.int .i64 rn, .int .i64 rd], .int .i64 0]), Det (.agg #[.int .i64 rn, .int .i64 rd]), Det (.int .i64 0), newB V6 #[.int .i64 0, .int .i64 0] 27, noF, Det (.int .i64 0)] (by rfl) [(15, 16), (13, 151)] [(17, 17), (15, 16), (14, 152), (13, 151), (12, 138), (11, 150), (10, 149), (9, 148), (8, 147), (7, 146), (6, 145), (5, 144), (4, 143), (3, 142), (2, 141), (1, 140), (0, 139)] (by kernel_rfl) (by kernel_rfl) (by kernel_rfl) (by kernel_rfl) (by kernel_rfl) (by kernel_rfl) (by kernel_rfl) (by kernel_rfl) (by kernel_rfl) rfl ?hpvq ?hendvq ?hstvq
              case hpvq =>
                refine And.intro ⟨[], by kernel_rfl, fun xs W hW hf K hK => opV_free rfl ?_⟩ ?_
                focus (have hs := hS W hW; (try simp only [factsL] at hf); (try simp only [putL]); (try simp only [hf]); go_simp; refine hK.out _ _ (Below.refl _ _) ?_; unfold Det; rfl)
                refine And.intro ⟨[], by kernel_rfl, fun xs W hW hf K hK => opV_free rfl ?_⟩ ?_
                focus (have hs := hS W hW; (try simp only [factsL] at hf); (try simp only [putL]); (try simp only [hf]); go_simp; refine hK.out _ _ (Below.refl _ _) ?_; unfold Det; rfl)
                refine And.intro ⟨[(1, 140)], by kernel_rfl, fun xs W hW hf K hK => opV_free rfl ?_⟩ ?_
                focus (have hs := hS W hW; (try simp only [factsL, pickF, Det, and_true] at hf); (try simp only [putL, Act.put, List.setIfInBounds_toArray, List.set_cons_zero, List.set_cons_succ]); (try simp only [hf]); go_simp; refine hK.out _ _ (Below.refl _ _) ?_; unfold Det; rfl)
                refine And.intro ⟨[(2, 141)], by kernel_rfl, fun xs W hW hf K hK => opV_free rfl ?_⟩ ?_
                · simp only [factsL, pickF, Det, and_true] at hf
                  (try simp only [putL, Act.put, List.setIfInBounds_toArray, List.set_cons_zero, List.set_cons_succ])
                  simp only [hf]
                  go_simp
                  refine (HOA.out _ (bl2 hw hW)).mono ?_
                  rintro _ w9 ⟨y, rfl, hy, hr, hb9⟩
                  exact ⟨_, rfl, hK.out _ _ hb9 ⟨y, rfl, hy, hr⟩⟩
                refine And.intro ⟨[], by kernel_rfl, fun xs W hW hf K hK => opV_free rfl ?_⟩ ?_
                focus (have hs := hS W hW; (try simp only [factsL] at hf); (try simp only [putL]); (try simp only [hf]); go_simp; refine hK.out _ _ (Below.refl _ _) ?_; unfold Det; rfl)
                refine And.intro ⟨[(4, 143)], by kernel_rfl, fun xs W hW hf K hK => opV_free rfl ?_⟩ ?_
                focus (have hs := hS W hW; (try simp only [factsL, pickF, Det, and_true] at hf); (try simp only [putL, Act.put, List.setIfInBounds_toArray, List.set_cons_zero, List.set_cons_succ]); (try simp only [hf]); go_simp; refine hK.out _ _ (Below.refl _ _) ?_; unfold Det; rfl)
                refine And.intro ⟨[(5, 144)], by kernel_rfl, fun xs W hW hf K hK => opV_free rfl ?_⟩ ?_
                · simp only [factsL, pickF, Det, and_true] at hf
                  (try simp only [putL, Act.put, List.setIfInBounds_toArray, List.set_cons_zero, List.set_cons_succ])
                  simp only [hf]
                  go_simp
                  refine (HOB.out _ (bl2 hw hW)).mono ?_
                  rintro _ w9 ⟨y, rfl, hy, hr, hb9⟩
                  exact ⟨_, rfl, hK.out _ _ hb9 ⟨y, rfl, hy, hr⟩⟩
                refine And.intro ⟨[], by kernel_rfl, fun xs W hW hf K hK => opV_free rfl ?_⟩ ?_
                focus (have hs := hS W hW; (try simp only [factsL] at hf); (try simp only [putL]); (try simp only [hf]); go_simp; refine hK.out _ _ (Below.refl _ _) ?_; unfold Det; rfl)
                refine And.intro ⟨[], by kernel_rfl, fun xs W hW hf K hK => opV_free rfl ?_⟩ ?_
                focus (have hs := hS W hW; (try simp only [factsL] at hf); (try simp only [putL]); (try simp only [hf]); go_simp; refine hK.out _ _ (Below.refl _ _) ?_; unfold Det; rfl)
                refine And.intro ⟨[(8, 147), (7, 146)], by kernel_rfl, fun xs W hW hf K hK => opV_free rfl ?_⟩ ?_
                focus (have hs := hS W hW; (try simp only [factsL, pickF, Det, and_true] at hf); (try simp only [putL, Act.put, List.setIfInBounds_toArray, List.set_cons_zero, List.set_cons_succ]); (try simp only [hf]); go_simp; refine hK.out _ _ (Below.refl _ _) ?_; unfold Det; rfl)
                refine And.intro ⟨[(9, 148)], by kernel_rfl, fun xs W hW hf K hK => opV_free rfl ?_⟩ ?_
                · simp only [factsL, pickF, Det, and_true] at hf
                  (try simp only [putL, Act.put, List.setIfInBounds_toArray, List.set_cons_zero, List.set_cons_succ])
                  simp only [hf]
                  go_simp
                  refine (HID.out _ (bl2 hw hW)).mono ?_
                  rintro _ w9 ⟨B, k, rfl, hs, -, -, -, hb9⟩
                  exact ⟨_, rfl, hK.out _ _ hb9 ⟨B, k, rfl, hs⟩⟩
                refine And.intro ⟨[(10, 149), (6, 145), (3, 142), (0, 139)], by kernel_rfl, fun xs W hW hf K hK => opV_free rfl ?_⟩ ?_
                · simp only [factsL, pickF, Det, and_true] at hf
                  (try simp only [putL, Act.put, List.setIfInBounds_toArray, List.set_cons_zero, List.set_cons_succ])
                  obtain ⟨⟨B, k, e1, hs⟩, ⟨y2, e2, hy2, hr2⟩, ⟨y1, e3, hy1, hr1⟩, e4⟩ := hf
                  simp only [e1, e2, e3, e4]
                  go_simp
                  refine (HB2.out _ y1 y2 B k hy1 hy2 hr1 hr2 hs).mono ?_
                  rintro _ w9 ⟨rfl, hb9⟩
                  exact ⟨_, rfl, hK.out _ _ hb9 rfl⟩
                refine And.intro ⟨[(11, 150)], by kernel_rfl, fun xs W hW hf K hK => opV_free rfl ?_⟩ ?_
                focus (have hs := hS W hW; (try simp only [factsL, pickF, Det, and_true] at hf); (try simp only [putL, Act.put, List.setIfInBounds_toArray, List.set_cons_zero, List.set_cons_succ]); (try simp only [hf]); go_simp; refine hK.out _ _ (Below.refl _ _) ?_; unfold Det; rfl)
                refine And.intro ⟨[(12, 138)], by kernel_rfl, fun xs W hW hf K hK => opV_free rfl ?_⟩ ?_
                focus (have hs := hS W hW; (try simp only [factsL, pickF, Det, and_true] at hf); (try simp only [putL, Act.put, List.setIfInBounds_toArray, List.set_cons_zero, List.set_cons_succ]); (try simp only [hf]); go_simp; refine hK.out _ _ (Below.refl _ _) ?_; unfold Det; rfl)
                refine And.intro ⟨[(12, 138)], by kernel_rfl, fun xs W hW hf => ⟨_, det_rfl, yields_free rfl (fun w => ?_)⟩⟩ ?_
                focus ((try simp only [factsL, pickF, Det, and_true] at hf); (try simp only [putL, Act.put, List.setIfInBounds_toArray, List.set_cons_zero, List.set_cons_succ]); (try simp only [hf]); go_simp)
                refine And.intro ⟨[], by kernel_rfl, fun xs W hW hf K hK => opV_free rfl ?_⟩ ?_
                · simp only [factsL] at hf
                  (try simp only [putL])
                  go_simp
                  exact hK.out _ _ ((Below.refl _ _).alloc (Nat.le_refl _) _) ⟨_, rfl, Blk.new _ _ _, hW.size⟩
                refine And.intro ⟨[(14, 152)], by kernel_rfl, fun xs W hW hf => ⟨_, det_rfl, yields_free rfl (fun w => ?_)⟩⟩ ?_
                focus ((try simp only [factsL, pickF, Det, and_true] at hf); (try simp only [putL, Act.put, List.setIfInBounds_toArray, List.set_cons_zero, List.set_cons_succ]); (try simp only [hf]); go_simp)
                trivial
              case hstvq => exact ⟨det_stays, det_stays, det_stays, OwnM.stays, det_stays, det_stays, OwnM.stays, det_stays, det_stays, det_stays, IntsF.stays, det_stays, det_stays, det_stays, det_stays, newB_stays, noF_stays, det_stays, trivial⟩
              case hendvq =>
                intro xs W hW hf
                simp only [factsA, Det, noF, Nat.zero_add, Nat.reduceAdd, and_true, true_and] at hf
                obtain ⟨f0, f1, f2, f3, f4, f5, f6, f7, f8, f9, f10, f11, f12, f13, f14, ⟨b16, f15, g16, hz16⟩, f17⟩ := hf
                refine opV_free rfl ?_
                (simp only [putL, Act.put, upd, List.setIfInBounds_toArray, List.set_cons_zero, List.set_cons_succ])
                simp only [f0, f1, f2, f4, f5, f7, f8, f9, f11, f12, f13, f14, f15, f17]
                have hB0 := g16.free 0; have hB1 := g16.free 1
                have hC0 := g16.cell 0; have hC1 := g16.cell 1
                simp at hC0 hC1
                have g7 := g7.below hW hl7
                have hW3 := hW.size
                go_simp
                refine gen_w (fun W' => Below w.heap.size w W' ∧ Blk W' b7 #[.int .i64 rn, .int .i64 rd] 27 ∧ Blk W' b16 #[.int .i64 rn, .int .i64 rd] 27) ⟨((bl2 hw hW).setCell (p := ⟨b16, 0, none⟩) (by show w.heap.size ≤ b16; have := hw.size; omega) _).setCell (p := ⟨b16, 1, none⟩) (by show w.heap.size ≤ b16; have := hw.size; omega) _, (g7.far ⟨b16, 0, none⟩ (by show b7 ≠ b16; omega) _).far ⟨b16, 1, none⟩ (by show b7 ≠ b16; omega) _, by have := (g16.set 0 (.int .i64 rn)).set 1 (.int .i64 rd); simp at this; exact this⟩ ?_
                clear g7 g14 g16 hB0 hB1 hC0 hC1 g hW hS hW3 hw f0 f1 f2 f3 f4 f5 f6 f7 f8 f9 f10 f11 f12 f13 f14 f15 f17 hl3 hl7
                rintro V7 ⟨hw, g7, g16⟩
                have x0 := g7.cell 0; have x1 := g7.cell 1; have y0 := g16.cell 0; have y1 := g16.cell 1
                simp at x0 x1 y0 y1
                go_wp2_with (first | (go_at_call 12; refine (known_any _).mono ?_; rintro _ w9 ⟨rfl, hb9⟩; have hw := bl2 hw hb9) | fail)
                refine bodyPost_ret (v := .bool true) (by simp [results, Try.results6, go_sem]) rfl ?_
                exact ⟨rfl, hw⟩
        · have hJ := HJ.out
          rw [if_neg hi] at hJ
          subst hJ
          by_cases hn0 : 0 < c.n
          · have p1 : decide (0 < c.n) = true := by simp; omega
            have p2 : decide (c.n < c.d) = false := by simp; omega
            clear z0 z1 z2 z3 z4 z5 z6 z7 hi
            (have z0 := g.cell 0; have z1 := g.cell 1; have z2 := g.cell 2; have z3 := g.cell 3; have z4 := g.cell 4; have z5 := g.cell 5; have z6 := g.cell 6; have z7 := g.cell 7; simp at z0 z1 z2 z3 z4 z5 z6 z7)
            --D< e2
            as_aux_lemma =>
              go_upto_region 13 with fail
              clear z0 z1 z2 z3 z4 z5 z6 z7
              (have z0 := g.cell 0; have z1 := g.cell 1; have z2 := g.cell 2; have z3 := g.cell 3; have z4 := g.cell 4; have z5 := g.cell 5; have z6 := g.cell 6; have z7 := g.cell 7; simp at z0 z1 z2 z3 z4 z5 z6 z7)
              by_cases hka : a.kind = 1
              rotate_left 1
              · have hQk : (a.kind == 1) = false := by simp; exact hka
                go_wp2_with (first | (go_at_call 12; refine (known_any _).mono ?_; rintro _ w9 ⟨rfl, hb9⟩; have hw := bl2 hw hb9) | fail)
                refine bodyPost_ret (v := .bool true) (by simp [results, Try.results6, go_sem]) rfl ?_
                exact ⟨rfl, hw⟩
              have hQk : (a.kind == 1) = true := by simp; exact hka
              by_cases hkb : b.kind = 1
              rotate_left 1
              · have hQl : (b.kind == 1) = false := by simp; exact hkb
                go_wp2_with (first | (go_at_call 12; refine (known_any _).mono ?_; rintro _ w9 ⟨rfl, hb9⟩; have hw := bl2 hw hb9) | fail)
                refine bodyPost_ret (v := .bool true) (by simp [results, Try.results6, go_sem]) rfl ?_
                exact ⟨rfl, hw⟩
              have hQl : (b.kind == 1) = true := by simp; exact hkb
              have hl8 : l.length ≤ 60 := by omega
              have hw1 : IntKind.i64.wrap ((l.length : Int) + 1) = (l.length : Int) + 1 := IntWalk.i64_in _ ⟨by omega, by omega⟩
              have hw2 : IntKind.i64.wrap cut = cut := IntWalk.i64_in _ ⟨by omega, by omega⟩
              have hne1 : ((l.length : Int) + 1 == 0) = false := by simp; omega
              obtain ⟨k, hk, hkl⟩ : ∃ k : Nat, cut.tmod ((l.length : Int) + 1) = (k : Int) ∧ k ≤ l.length := by
                have e1 : cut.tmod ((l.length : Int) + 1) = cut % ((l.length : Int) + 1) := Int.tmod_eq_emod_of_nonneg hc0
                have e2 := Int.emod_nonneg cut (show ((l.length : Int) + 1) ≠ 0 by omega)
                have e3 := Int.emod_lt_of_pos cut (show 0 < ((l.length : Int) + 1) by omega)
                exact ⟨(cut.tmod ((l.length : Int) + 1)).toNat, by omega, by omega⟩
              clear z0 z1 z2 z3 z4 z5 z6 z7
              (have z0 := g.cell 0; have z1 := g.cell 1; have z2 := g.cell 2; have z3 := g.cell 3; have z4 := g.cell 4; have z5 := g.cell 5; have z6 := g.cell 6; have z7 := g.cell 7; simp at z0 z1 z2 z3 z4 z5 z6 z7)
              go_upto_region 15 with fail
              obtain ⟨n1, d1, hp1, hp2⟩ := bel_parts (c := c) (a := a.m) (b := b.m) (l := l) (n := rn) (d := rd) hka hkb HRES.out.symm k
              have hlt : (l.take k).length = k := by simp; omega
              have hld : (l.drop k).length = l.length - k := by simp
              have HTL : Hid (Sl intCell 1 w w.heap.size lA (l.take k)) := Lib.hid (sl_takeI HL.out hkl)
              have HIT : Hid (∀ W, Below w.heap.size w W → Calls Try.prog 15 #[.slice lA k lc] W fun e w' => ∃ B q, e = .returned (.slice B k q) ∧ Sl intCell 1 w' w'.heap.size B (l.take k) ∧ (B = none → q = 0) ∧ (l.take k).length ≤ q ∧ w'.ownsRow W.heap.size 3 1 (.slice B (l.take k).length q) (l.take k).length (flat intCell (l.take k)) ∧ Below W.heap.size W w') := Lib.hid fun W hW => lints_any lA lc k (l.take k) W hlt (by omega) HLN.out ((HTL.out.below hW).more hW.size)
              obtain ⟨A5, hA1, hA2⟩ := HL.out.from_ (fun _ => rfl) k lc hlc
              have hsl5 := fun W => ints_slice lA l.length lc k W hkl
              rw [hA1] at hsl5
              have hn5 : A5 = none → lc - k = 0 := fun e => by
                subst e
                rcases hA : lA with _ | ad
                · have := HLN.out hA; omega
                · rw [hA] at hA1
                  simp only [sliced] at hA1
                  split at hA1
                  · rename_i h9
                    have := congrArg (fun v => match v with | .slice _ _ c => c | _ => 0) hA1
                    simp at this
                    omega
                  · simp at hA1
              have HID : Hid (∀ W, Below w.heap.size w W → Calls Try.prog 15 #[.slice A5 (l.length - k) (lc - k)] W fun e w' => ∃ B q, e = .returned (.slice B (l.length - k) q) ∧ Sl intCell 1 w' w'.heap.size B (l.drop k) ∧ (B = none → q = 0) ∧ (l.drop k).length ≤ q ∧ w'.ownsRow W.heap.size 3 1 (.slice B (l.drop k).length q) (l.drop k).length (flat intCell (l.drop k)) ∧ Below W.heap.size W w') := Lib.hid fun W hW => lints_any A5 (lc - k) (l.length - k) (l.drop k) W hld (by omega) hn5 ((hA2.below hW).more hW.size)
              have HB1 : Hid (∀ W (y1 y2 : Md) B q, y1.m = a.m → y2.m = b.m → y1.reads W W.heap.size → y2.reads W W.heap.size → Sl intCell 1 W W.heap.size B (l.take k) → Calls Try.prog 16 #[.agg #[.int .i64 c.n, .int .i64 c.d], .agg #[.int .i64 y1.kind, .slice y1.a y1.rows.length y1.c, .int .i64 y1.after], .agg #[.int .i64 y2.kind, .slice y2.a y2.rows.length y2.c, .int .i64 y2.after], .slice B k q] W (RetC (n1, d1, 0) W)) := Lib.hid fun W y1 y2 B q h1 h2 h3 h4 h5 => by
                have := belF_any c y1 y2 (l.take k) B q W (by omega) h3 h4 h5
                rw [h1, h2, hp1, hlt] at this
                exact this
              have HB2 : Hid (∀ W (y1 y2 : Md) B q, y1.m = a.m → y2.m = b.m → y1.reads W W.heap.size → y2.reads W W.heap.size → Sl intCell 1 W W.heap.size B (l.drop k) → Calls Try.prog 16 #[.agg #[.int .i64 n1, .int .i64 d1], .agg #[.int .i64 y1.kind, .slice y1.a y1.rows.length y1.c, .int .i64 y1.after], .agg #[.int .i64 y2.kind, .slice y2.a y2.rows.length y2.c, .int .i64 y2.after], .slice B (l.length - k) q] W (RetC (rn, rd, 0) W)) := Lib.hid fun W y1 y2 B q h1 h2 h3 h4 h5 => by
                have := belF_any ⟨n1, d1⟩ y1 y2 (l.drop k) B q W (by omega) h3 h4 h5
                rw [h1, h2, hp2, hld] at this
                exact this
              have hs15 : ∀ W, (Instr.slice 30 (.slice lA l.length lc) none (some (.int .i64 (k : Int))) none).run Try.prog W = .ok (.slice lA k lc) W := fun W => ints_to lA l.length lc k W hkl hlc
              clear hka hkb hQk hQl hp1 hp2 hlt hld hA1 hA2 hn5 z0 z1 z2 z3 z4 z5 z6 z7 hk hw1 hw2 hne1
              clear x0 x1
              refine gen_w (fun W' => Blk W' b3 #[.int .i64 a.kind, .slice a.a a.rows.length a.c, .int .i64 a.after, .int .i64 b.kind, .slice b.a b.rows.length b.c, .int .i64 b.after, .int .i64 c.n, .int .i64 c.d] 29 ∧ Below w.heap.size w W' ∧ Blk W' b7 #[.int .i64 rn, .int .i64 rd] 27) ⟨g, hw, g7⟩ ?_
              clear g g7 hw hl3 hl7
              rintro V5 ⟨g, hw, g7⟩
              have hl7 := g7.lt; have hl3 := g.lt
              have hS : ∀ W, Below V5.heap.size V5 W → W.cell? ⟨b3, 0, none⟩ = some (.int .i64 a.kind) ∧ W.cell? ⟨b3, 1, none⟩ = some (.slice a.a a.rows.length a.c) ∧ W.cell? ⟨b3, 2, none⟩ = some (.int .i64 a.after) ∧ W.cell? ⟨b3, 3, none⟩ = some (.int .i64 b.kind) ∧ W.cell? ⟨b3, 4, none⟩ = some (.slice b.a b.rows.length b.c) ∧ W.cell? ⟨b3, 5, none⟩ = some (.int .i64 b.after) ∧ W.cell? ⟨b3, 6, none⟩ = some (.int .i64 c.n) ∧ W.cell? ⟨b3, 7, none⟩ = some (.int .i64 c.d) := fun W hW => by
                have g := g.below hW hl3
                (have z0 := g.cell 0; have z1 := g.cell 1; have z2 := g.cell 2; have z3 := g.cell 3; have z4 := g.cell 4; have z5 := g.cell 5; have z6 := g.cell 6; have z7 := g.cell 7; simp at z0 z1 z2 z3 z4 z5 z6 z7)
                exact ⟨z0, z1, z2, z3, z4, z5, z6, z7⟩
              refine' wp_region_plan 17 [16, 14, 13, 12, 11, 10, 9, 8, 7, 6, 5, 4, 3, 2, 1, 0] [.eff, .eff, .eff, .eff, .eff, .eff, .eff, .eff, .eff, .eff, .eff, .eff, .eff, .eff, .eff, .pur, .eff, .last, .post] [Det _, Det _, Det _, Det _, OwnM a.m, Det _, Det _, OwnM b.m, Det _, Det _, Det (.slice lA k lc), IntsF (l.take k) k, Det (.tuple #[.agg #[.int .i64 n1, .int .i64 d1], .int .i64 0]), Det (.tuple #[.agg #[.int .i64 n1, .int .i64 d1], .int .i64 0]), Det (.agg #[.int .i64 n1, .int .i64 d1]), Det (.int .i64 0), newB V5 #[.int .i64 0, .int .i64 0] 27, noF, Det (.int .i64 0)] (by rfl) [(16, 14), (14, 136)] [(18, 15), (16, 14), (15, 137), (14, 136), (13, 122), (12, 135), (11, 134), (10, 133), (9, 132), (8, 131), (7, 130), (6, 129), (5, 128), (4, 127), (3, 126), (2, 125), (1, 124), (0, 123)] (by kernel_rfl) (by kernel_rfl) (by kernel_rfl) (by kernel_rfl) (by kernel_rfl) (by kernel_rfl) (by kernel_rfl) (by kernel_rfl) (by kernel_rfl) rfl ?hpr ?hendr ?hstr
              case hpr =>
                refine And.intro ⟨[], by kernel_rfl, fun xs W hW hf K hK => opV_free rfl ?_⟩ ?_
                focus (have hs := hS W hW; (try simp only [factsL] at hf); (try simp only [putL]); (try simp only [hf]); go_simp; refine hK.out _ _ (Below.refl _ _) ?_; unfold Det; rfl)
                refine And.intro ⟨[(0, 123)], by kernel_rfl, fun xs W hW hf K hK => opV_free rfl ?_⟩ ?_
                focus (have hs := hS W hW; (try simp only [factsL, pickF, Det, and_true] at hf); (try simp only [putL, Act.put, List.setIfInBounds_toArray, List.set_cons_zero, List.set_cons_succ]); (try simp only [hf]); go_simp; refine hK.out _ _ (Below.refl _ _) ?_; unfold Det; rfl)
                refine And.intro ⟨[], by kernel_rfl, fun xs W hW hf K hK => opV_free rfl ?_⟩ ?_
                focus (have hs := hS W hW; (try simp only [factsL] at hf); (try simp only [putL]); (try simp only [hf]); go_simp; refine hK.out _ _ (Below.refl _ _) ?_; unfold Det; rfl)
                refine And.intro ⟨[(2, 125)], by kernel_rfl, fun xs W hW hf K hK => opV_free rfl ?_⟩ ?_
                focus (have hs := hS W hW; (try simp only [factsL, pickF, Det, and_true] at hf); (try simp only [putL, Act.put, List.setIfInBounds_toArray, List.set_cons_zero, List.set_cons_succ]); (try simp only [hf]); go_simp; refine hK.out _ _ (Below.refl _ _) ?_; unfold Det; rfl)
                refine And.intro ⟨[(3, 126)], by kernel_rfl, fun xs W hW hf K hK => opV_free rfl ?_⟩ ?_
                · simp only [factsL, pickF, Det, and_true] at hf
                  (try simp only [putL, Act.put, List.setIfInBounds_toArray, List.set_cons_zero, List.set_cons_succ])
                  simp only [hf]
                  go_simp
                  refine (HOA.out _ (bl2 hw hW)).mono ?_
                  rintro _ w9 ⟨y, rfl, hy, hr, hb9⟩
                  exact ⟨_, rfl, hK.out _ _ hb9 ⟨y, rfl, hy, hr⟩⟩
                refine And.intro ⟨[], by kernel_rfl, fun xs W hW hf K hK => opV_free rfl ?_⟩ ?_
                focus (have hs := hS W hW; (try simp only [factsL] at hf); (try simp only [putL]); (try simp only [hf]); go_simp; refine hK.out _ _ (Below.refl _ _) ?_; unfold Det; rfl)
                refine And.intro ⟨[(5, 128)], by kernel_rfl, fun xs W hW hf K hK => opV_free rfl ?_⟩ ?_
                focus (have hs := hS W hW; (try simp only [factsL, pickF, Det, and_true] at hf); (try simp only [putL, Act.put, List.setIfInBounds_toArray, List.set_cons_zero, List.set_cons_succ]); (try simp only [hf]); go_simp; refine hK.out _ _ (Below.refl _ _) ?_; unfold Det; rfl)
                refine And.intro ⟨[(6, 129)], by kernel_rfl, fun xs W hW hf K hK => opV_free rfl ?_⟩ ?_
                · simp only [factsL, pickF, Det, and_true] at hf
                  (try simp only [putL, Act.put, List.setIfInBounds_toArray, List.set_cons_zero, List.set_cons_succ])
                  simp only [hf]
                  go_simp
                  refine (HOB.out _ (bl2 hw hW)).mono ?_
                  rintro _ w9 ⟨y, rfl, hy, hr, hb9⟩
                  exact ⟨_, rfl, hK.out _ _ hb9 ⟨y, rfl, hy, hr⟩⟩
                refine And.intro ⟨[], by kernel_rfl, fun xs W hW hf K hK => opV_free rfl ?_⟩ ?_
                focus (have hs := hS W hW; (try simp only [factsL] at hf); (try simp only [putL]); (try simp only [hf]); go_simp; refine hK.out _ _ (Below.refl _ _) ?_; unfold Det; rfl)
                refine And.intro ⟨[], by kernel_rfl, fun xs W hW hf K hK => opV_free rfl ?_⟩ ?_
                focus (have hs := hS W hW; (try simp only [factsL] at hf); (try simp only [putL]); (try simp only [hf]); go_simp; refine hK.out _ _ (Below.refl _ _) ?_; unfold Det; rfl)
                refine And.intro ⟨[(9, 132), (8, 131)], by kernel_rfl, fun xs W hW hf K hK => opV_free rfl ?_⟩ ?_
                focus (have hs := hS W hW; (try simp only [factsL, pickF, Det, and_true] at hf); (try simp only [putL, Act.put, List.setIfInBounds_toArray, List.set_cons_zero, List.set_cons_succ]); (try simp only [hf]); go_simp; refine hK.out _ _ (Below.refl _ _) ?_; unfold Det; rfl)
                refine And.intro ⟨[(10, 133)], by kernel_rfl, fun xs W hW hf K hK => opV_free rfl ?_⟩ ?_
                · simp only [factsL, pickF, Det, and_true] at hf
                  (try simp only [putL, Act.put, List.setIfInBounds_toArray, List.set_cons_zero, List.set_cons_succ])
                  simp only [hf]
                  go_simp
                  refine (HIT.out _ (bl2 hw hW)).mono ?_
                  rintro _ w9 ⟨B, k, rfl, hs, -, -, -, hb9⟩
                  exact ⟨_, rfl, hK.out _ _ hb9 ⟨B, k, rfl, hs⟩⟩
                refine And.intro ⟨[(11, 134), (7, 130), (4, 127), (1, 124)], by kernel_rfl, fun xs W hW hf K hK => opV_free rfl ?_⟩ ?_
                · simp only [factsL, pickF, Det, and_true] at hf
                  (try simp only [putL, Act.put, List.setIfInBounds_toArray, List.set_cons_zero, List.set_cons_succ])
                  obtain ⟨⟨B, k, e1, hs⟩, ⟨y2, e2, hy2, hr2⟩, ⟨y1, e3, hy1, hr1⟩, e4⟩ := hf
                  simp only [e1, e2, e3, e4]
                  go_simp
                  refine (HB1.out _ y1 y2 B k hy1 hy2 hr1 hr2 hs).mono ?_
                  rintro _ w9 ⟨rfl, hb9⟩
                  exact ⟨_, rfl, hK.out _ _ hb9 rfl⟩
                refine And.intro ⟨[(12, 135)], by kernel_rfl, fun xs W hW hf K hK => opV_free rfl ?_⟩ ?_
                focus (have hs := hS W hW; (try simp only [factsL, pickF, Det, and_true] at hf); (try simp only [putL, Act.put, List.setIfInBounds_toArray, List.set_cons_zero, List.set_cons_succ]); (try simp only [hf]); go_simp; refine hK.out _ _ (Below.refl _ _) ?_; unfold Det; rfl)
                refine And.intro ⟨[(13, 122)], by kernel_rfl, fun xs W hW hf K hK => opV_free rfl ?_⟩ ?_
                focus (have hs := hS W hW; (try simp only [factsL, pickF, Det, and_true] at hf); (try simp only [putL, Act.put, List.setIfInBounds_toArray, List.set_cons_zero, List.set_cons_succ]); (try simp only [hf]); go_simp; refine hK.out _ _ (Below.refl _ _) ?_; unfold Det; rfl)
                refine And.intro ⟨[(13, 122)], by kernel_rfl, fun xs W hW hf => ⟨_, det_rfl, yields_free rfl (fun w => ?_)⟩⟩ ?_
                focus ((try simp only [factsL, pickF, Det, and_true] at hf); (try simp only [putL, Act.put, List.setIfInBounds_toArray, List.set_cons_zero, List.set_cons_succ]); (try simp only [hf]); go_simp)
                refine And.intro ⟨[], by kernel_rfl, fun xs W hW hf K hK => opV_free rfl ?_⟩ ?_
                · simp only [factsL] at hf
                  (try simp only [putL])
                  go_simp
                  exact hK.out _ _ ((Below.refl _ _).alloc (Nat.le_refl _) _) ⟨_, rfl, Blk.new _ _ _, hW.size⟩
                refine And.intro ⟨[(15, 137)], by kernel_rfl, fun xs W hW hf => ⟨_, det_rfl, yields_free rfl (fun w => ?_)⟩⟩ ?_
                focus ((try simp only [factsL, pickF, Det, and_true] at hf); (try simp only [putL, Act.put, List.setIfInBounds_toArray, List.set_cons_zero, List.set_cons_succ]); (try simp only [hf]); go_simp)
                trivial
              case hstr => exact ⟨det_stays, det_stays, det_stays, det_stays, OwnM.stays, det_stays, det_stays, OwnM.stays, det_stays, det_stays, det_stays, IntsF.stays, det_stays, det_stays, det_stays, det_stays, newB_stays, noF_stays, det_stays, trivial⟩
              case hendr =>
                intro xs W hW hf
                simp only [factsA, Det, noF, Nat.zero_add, Nat.reduceAdd, and_true, true_and] at hf
                obtain ⟨f0, f1, f2, f3, f4, f5, f6, f7, f8, f9, f10, f11, f12, f13, f14, f15, ⟨b14, f16, g14, hz14⟩, f18⟩ := hf
                refine opV_free rfl ?_
                (simp only [putL, Act.put, upd, List.setIfInBounds_toArray, List.set_cons_zero, List.set_cons_succ])
                simp only [f0, f1, f2, f3, f5, f6, f8, f9, f10, f12, f13, f14, f15, f16, f18]
                have hB0 := g14.free 0; have hB1 := g14.free 1
                have hC0 := g14.cell 0; have hC1 := g14.cell 1
                simp at hC0 hC1
                have g := g.below hW hl3
                have g7 := g7.below hW hl7
                have hW3 := hW.size
                go_simp
                refine gen_w (fun W' => Blk W' b3 #[.int .i64 a.kind, .slice a.a a.rows.length a.c, .int .i64 a.after, .int .i64 b.kind, .slice b.a b.rows.length b.c, .int .i64 b.after, .int .i64 c.n, .int .i64 c.d] 29 ∧ Below w.heap.size w W' ∧ Blk W' b7 #[.int .i64 rn, .int .i64 rd] 27 ∧ Blk W' b14 #[.int .i64 n1, .int .i64 d1] 27) ⟨(g.far ⟨b14, 0, none⟩ (by show b3 ≠ b14; omega) _).far ⟨b14, 1, none⟩ (by show b3 ≠ b14; omega) _, ((bl2 hw hW).setCell (p := ⟨b14, 0, none⟩) (by show w.heap.size ≤ b14; have := hw.size; omega) _).setCell (p := ⟨b14, 1, none⟩) (by show w.heap.size ≤ b14; have := hw.size; omega) _, (g7.far ⟨b14, 0, none⟩ (by show b7 ≠ b14; omega) _).far ⟨b14, 1, none⟩ (by show b7 ≠ b14; omega) _, by have := (g14.set 0 (.int .i64 n1)).set 1 (.int .i64 d1); simp at this; exact this⟩ ?_
                clear g7 g14 hB0 hB1 hC0 hC1 g hW hS hW3 hw f0 f1 f2 f3 f4 f5 f6 f7 f8 f9 f10 f11 f12 f13 f14 f15 f16 f18 hl3 hl7
                rintro V6 ⟨g, hw, g7, g14⟩
                have hl7 := g7.lt; have hl3 := g.lt; have hl14 := g14.lt
                go_upto_region 16 with fail
                have hS : ∀ W, Below V6.heap.size V6 W → W.cell? ⟨b3, 0, none⟩ = some (.int .i64 a.kind) ∧ W.cell? ⟨b3, 1, none⟩ = some (.slice a.a a.rows.length a.c) ∧ W.cell? ⟨b3, 2, none⟩ = some (.int .i64 a.after) ∧ W.cell? ⟨b3, 3, none⟩ = some (.int .i64 b.kind) ∧ W.cell? ⟨b3, 4, none⟩ = some (.slice b.a b.rows.length b.c) ∧ W.cell? ⟨b3, 5, none⟩ = some (.int .i64 b.after) ∧ W.cell? ⟨b3, 6, none⟩ = some (.int .i64 c.n) ∧ W.cell? ⟨b3, 7, none⟩ = some (.int .i64 c.d) ∧ W.cell? ⟨b14, 0, none⟩ = some (.int .i64 n1) ∧ W.cell? ⟨b14, 1, none⟩ = some (.int .i64 d1) := fun W hW => by
                  have g := g.below hW hl3
                  (have z0 := g.cell 0; have z1 := g.cell 1; have z2 := g.cell 2; have z3 := g.cell 3; have z4 := g.cell 4; have z5 := g.cell 5; have z6 := g.cell 6; have z7 := g.cell 7; simp at z0 z1 z2 z3 z4 z5 z6 z7)
                  have g14 := g14.below hW hl14
                  have y0 := g14.cell 0; have y1 := g14.cell 1
                  simp at y0 y1
                  exact ⟨z0, z1, z2, z3, z4, z5, z6, z7, y0, y1⟩
                refine' wp_region_plan 16 [15, 13, 12, 11, 10, 9, 8, 7, 6, 5, 4, 3, 2, 1, 0] [.eff, .eff, .eff, .eff, .eff, .eff, .eff, .eff, .eff, .eff, .eff, .eff, .eff, .eff, .pur, .eff, .last, .post] [Det _, Det _, Det _, OwnM a.m, Det _, Det _, OwnM b.m, Det _, Det _, Det (.slice A5 (l.length - k) (lc - k)), IntsF (l.drop k) (l.length - k), Det (.tuple #[.agg #[.int .i64 rn, .int .i64 rd], .int .i64 0]), Det (.tuple #[.agg #[.int .i64 rn, .int .i64 rd], .int .i64 0]), Det (.agg #[.int .i64 rn, .int .i64 rd]), Det (.int .i64 0), newB V6 #[.int .i64 0, .int .i64 0] 27, noF, Det (.int .i64 0)] (by rfl) [(15, 16), (13, 151)] [(17, 17), (15, 16), (14, 152), (13, 151), (12, 138), (11, 150), (10, 149), (9, 148), (8, 147), (7, 146), (6, 145), (5, 144), (4, 143), (3, 142), (2, 141), (1, 140), (0, 139)] (by kernel_rfl) (by kernel_rfl) (by kernel_rfl) (by kernel_rfl) (by kernel_rfl) (by kernel_rfl) (by kernel_rfl) (by kernel_rfl) (by kernel_rfl) rfl ?hpvr ?hendvr ?hstvr
                case hpvr =>
                  refine And.intro ⟨[], by kernel_rfl, fun xs W hW hf K hK => opV_free rfl ?_⟩ ?_
                  focus (have hs := hS W hW; (try simp only [factsL] at hf); (try simp only [putL]); (try simp only [hf]); go_simp; refine hK.out _ _ (Below.refl _ _) ?_; unfold Det; rfl)
                  refine And.intro ⟨[], by kernel_rfl, fun xs W hW hf K hK => opV_free rfl ?_⟩ ?_
                  focus (have hs := hS W hW; (try simp only [factsL] at hf); (try simp only [putL]); (try simp only [hf]); go_simp; refine hK.out _ _ (Below.refl _ _) ?_; unfold Det; rfl)
                  refine And.intro ⟨[(1, 140)], by kernel_rfl, fun xs W hW hf K hK => opV_free rfl ?_⟩ ?_
                  focus (have hs := hS W hW; (try simp only [factsL, pickF, Det, and_true] at hf); (try simp only [putL, Act.put, List.setIfInBounds_toArray, List.set_cons_zero, List.set_cons_succ]); (try simp only [hf]); go_simp; refine hK.out _ _ (Below.refl _ _) ?_; unfold Det; rfl)
                  refine And.intro ⟨[(2, 141)], by kernel_rfl, fun xs W hW hf K hK => opV_free rfl ?_⟩ ?_
                  · simp only [factsL, pickF, Det, and_true] at hf
                    (try simp only [putL, Act.put, List.setIfInBounds_toArray, List.set_cons_zero, List.set_cons_succ])
                    simp only [hf]
                    go_simp
                    refine (HOA.out _ (bl2 hw hW)).mono ?_
                    rintro _ w9 ⟨y, rfl, hy, hr, hb9⟩
                    exact ⟨_, rfl, hK.out _ _ hb9 ⟨y, rfl, hy, hr⟩⟩
                  refine And.intro ⟨[], by kernel_rfl, fun xs W hW hf K hK => opV_free rfl ?_⟩ ?_
                  focus (have hs := hS W hW; (try simp only [factsL] at hf); (try simp only [putL]); (try simp only [hf]); go_simp; refine hK.out _ _ (Below.refl _ _) ?_; unfold Det; rfl)
                  refine And.intro ⟨[(4, 143)], by kernel_rfl, fun xs W hW hf K hK => opV_free rfl ?_⟩ ?_
                  focus (have hs := hS W hW; (try simp only [factsL, pickF, Det, and_true] at hf); (try simp only [putL, Act.put, List.setIfInBounds_toArray, List.set_cons_zero, List.set_cons_succ]); (try simp only [hf]); go_simp; refine hK.out _ _ (Below.refl _ _) ?_; unfold Det; rfl)
                  refine And.intro ⟨[(5, 144)], by kernel_rfl, fun xs W hW hf K hK => opV_free rfl ?_⟩ ?_
                  · simp only [factsL, pickF, Det, and_true] at hf
                    (try simp only [putL, Act.put, List.setIfInBounds_toArray, List.set_cons_zero, List.set_cons_succ])
                    simp only [hf]
                    go_simp
                    refine (HOB.out _ (bl2 hw hW)).mono ?_
                    rintro _ w9 ⟨y, rfl, hy, hr, hb9⟩
                    exact ⟨_, rfl, hK.out _ _ hb9 ⟨y, rfl, hy, hr⟩⟩
                  refine And.intro ⟨[], by kernel_rfl, fun xs W hW hf K hK => opV_free rfl ?_⟩ ?_
                  focus (have hs := hS W hW; (try simp only [factsL] at hf); (try simp only [putL]); (try simp only [hf]); go_simp; refine hK.out _ _ (Below.refl _ _) ?_; unfold Det; rfl)
                  refine And.intro ⟨[], by kernel_rfl, fun xs W hW hf K hK => opV_free rfl ?_⟩ ?_
                  focus (have hs := hS W hW; (try simp only [factsL] at hf); (try simp only [putL]); (try simp only [hf]); go_simp; refine hK.out _ _ (Below.refl _ _) ?_; unfold Det; rfl)
                  refine And.intro ⟨[(8, 147), (7, 146)], by kernel_rfl, fun xs W hW hf K hK => opV_free rfl ?_⟩ ?_
                  focus (have hs := hS W hW; (try simp only [factsL, pickF, Det, and_true] at hf); (try simp only [putL, Act.put, List.setIfInBounds_toArray, List.set_cons_zero, List.set_cons_succ]); (try simp only [hf]); go_simp; refine hK.out _ _ (Below.refl _ _) ?_; unfold Det; rfl)
                  refine And.intro ⟨[(9, 148)], by kernel_rfl, fun xs W hW hf K hK => opV_free rfl ?_⟩ ?_
                  · simp only [factsL, pickF, Det, and_true] at hf
                    (try simp only [putL, Act.put, List.setIfInBounds_toArray, List.set_cons_zero, List.set_cons_succ])
                    simp only [hf]
                    go_simp
                    refine (HID.out _ (bl2 hw hW)).mono ?_
                    rintro _ w9 ⟨B, k, rfl, hs, -, -, -, hb9⟩
                    exact ⟨_, rfl, hK.out _ _ hb9 ⟨B, k, rfl, hs⟩⟩
                  refine And.intro ⟨[(10, 149), (6, 145), (3, 142), (0, 139)], by kernel_rfl, fun xs W hW hf K hK => opV_free rfl ?_⟩ ?_
                  · simp only [factsL, pickF, Det, and_true] at hf
                    (try simp only [putL, Act.put, List.setIfInBounds_toArray, List.set_cons_zero, List.set_cons_succ])
                    obtain ⟨⟨B, k, e1, hs⟩, ⟨y2, e2, hy2, hr2⟩, ⟨y1, e3, hy1, hr1⟩, e4⟩ := hf
                    simp only [e1, e2, e3, e4]
                    go_simp
                    refine (HB2.out _ y1 y2 B k hy1 hy2 hr1 hr2 hs).mono ?_
                    rintro _ w9 ⟨rfl, hb9⟩
                    exact ⟨_, rfl, hK.out _ _ hb9 rfl⟩
                  refine And.intro ⟨[(11, 150)], by kernel_rfl, fun xs W hW hf K hK => opV_free rfl ?_⟩ ?_
                  focus (have hs := hS W hW; (try simp only [factsL, pickF, Det, and_true] at hf); (try simp only [putL, Act.put, List.setIfInBounds_toArray, List.set_cons_zero, List.set_cons_succ]); (try simp only [hf]); go_simp; refine hK.out _ _ (Below.refl _ _) ?_; unfold Det; rfl)
                  refine And.intro ⟨[(12, 138)], by kernel_rfl, fun xs W hW hf K hK => opV_free rfl ?_⟩ ?_
                  focus (have hs := hS W hW; (try simp only [factsL, pickF, Det, and_true] at hf); (try simp only [putL, Act.put, List.setIfInBounds_toArray, List.set_cons_zero, List.set_cons_succ]); (try simp only [hf]); go_simp; refine hK.out _ _ (Below.refl _ _) ?_; unfold Det; rfl)
                  refine And.intro ⟨[(12, 138)], by kernel_rfl, fun xs W hW hf => ⟨_, det_rfl, yields_free rfl (fun w => ?_)⟩⟩ ?_
                  focus ((try simp only [factsL, pickF, Det, and_true] at hf); (try simp only [putL, Act.put, List.setIfInBounds_toArray, List.set_cons_zero, List.set_cons_succ]); (try simp only [hf]); go_simp)
                  refine And.intro ⟨[], by kernel_rfl, fun xs W hW hf K hK => opV_free rfl ?_⟩ ?_
                  · simp only [factsL] at hf
                    (try simp only [putL])
                    go_simp
                    exact hK.out _ _ ((Below.refl _ _).alloc (Nat.le_refl _) _) ⟨_, rfl, Blk.new _ _ _, hW.size⟩
                  refine And.intro ⟨[(14, 152)], by kernel_rfl, fun xs W hW hf => ⟨_, det_rfl, yields_free rfl (fun w => ?_)⟩⟩ ?_
                  focus ((try simp only [factsL, pickF, Det, and_true] at hf); (try simp only [putL, Act.put, List.setIfInBounds_toArray, List.set_cons_zero, List.set_cons_succ]); (try simp only [hf]); go_simp)
                  trivial
                case hstvr => exact ⟨det_stays, det_stays, det_stays, OwnM.stays, det_stays, det_stays, OwnM.stays, det_stays, det_stays, det_stays, IntsF.stays, det_stays, det_stays, det_stays, det_stays, newB_stays, noF_stays, det_stays, trivial⟩
                case hendvr =>
                  intro xs W hW hf
                  simp only [factsA, Det, noF, Nat.zero_add, Nat.reduceAdd, and_true, true_and] at hf
                  obtain ⟨f0, f1, f2, f3, f4, f5, f6, f7, f8, f9, f10, f11, f12, f13, f14, ⟨b16, f15, g16, hz16⟩, f17⟩ := hf
                  refine opV_free rfl ?_
                  (simp only [putL, Act.put, upd, List.setIfInBounds_toArray, List.set_cons_zero, List.set_cons_succ])
                  simp only [f0, f1, f2, f4, f5, f7, f8, f9, f11, f12, f13, f14, f15, f17]
                  have hB0 := g16.free 0; have hB1 := g16.free 1
                  have hC0 := g16.cell 0; have hC1 := g16.cell 1
                  simp at hC0 hC1
                  have g7 := g7.below hW hl7
                  have hW3 := hW.size
                  go_simp
                  refine gen_w (fun W' => Below w.heap.size w W' ∧ Blk W' b7 #[.int .i64 rn, .int .i64 rd] 27 ∧ Blk W' b16 #[.int .i64 rn, .int .i64 rd] 27) ⟨((bl2 hw hW).setCell (p := ⟨b16, 0, none⟩) (by show w.heap.size ≤ b16; have := hw.size; omega) _).setCell (p := ⟨b16, 1, none⟩) (by show w.heap.size ≤ b16; have := hw.size; omega) _, (g7.far ⟨b16, 0, none⟩ (by show b7 ≠ b16; omega) _).far ⟨b16, 1, none⟩ (by show b7 ≠ b16; omega) _, by have := (g16.set 0 (.int .i64 rn)).set 1 (.int .i64 rd); simp at this; exact this⟩ ?_
                  clear g7 g14 g16 hB0 hB1 hC0 hC1 g hW hS hW3 hw f0 f1 f2 f3 f4 f5 f6 f7 f8 f9 f10 f11 f12 f13 f14 f15 f17 hl3 hl7
                  rintro V7 ⟨hw, g7, g16⟩
                  have x0 := g7.cell 0; have x1 := g7.cell 1; have y0 := g16.cell 0; have y1 := g16.cell 1
                  simp at x0 x1 y0 y1
                  go_wp2_with (first | (go_at_call 12; refine (known_any _).mono ?_; rintro _ w9 ⟨rfl, hb9⟩; have hw := bl2 hw hb9) | fail)
                  refine bodyPost_ret (v := .bool true) (by simp [results, Try.results6, go_sem]) rfl ?_
                  exact ⟨rfl, hw⟩
            --D>
          · have p1 : decide (0 < c.n) = false := by simp; omega
            clear z0 z1 z2 z3 z4 z5 z6 z7 hi
            (have z0 := g.cell 0; have z1 := g.cell 1; have z2 := g.cell 2; have z3 := g.cell 3; have z4 := g.cell 4; have z5 := g.cell 5; have z6 := g.cell 6; have z7 := g.cell 7; simp at z0 z1 z2 z3 z4 z5 z6 z7)
            --D< e3
            as_aux_lemma =>
              go_upto_region 13 with fail
              clear z0 z1 z2 z3 z4 z5 z6 z7
              (have z0 := g.cell 0; have z1 := g.cell 1; have z2 := g.cell 2; have z3 := g.cell 3; have z4 := g.cell 4; have z5 := g.cell 5; have z6 := g.cell 6; have z7 := g.cell 7; simp at z0 z1 z2 z3 z4 z5 z6 z7)
              by_cases hka : a.kind = 1
              rotate_left 1
              · have hQk : (a.kind == 1) = false := by simp; exact hka
                go_wp2_with (first | (go_at_call 12; refine (known_any _).mono ?_; rintro _ w9 ⟨rfl, hb9⟩; have hw := bl2 hw hb9) | fail)
                refine bodyPost_ret (v := .bool true) (by simp [results, Try.results6, go_sem]) rfl ?_
                exact ⟨rfl, hw⟩
              have hQk : (a.kind == 1) = true := by simp; exact hka
              by_cases hkb : b.kind = 1
              rotate_left 1
              · have hQl : (b.kind == 1) = false := by simp; exact hkb
                go_wp2_with (first | (go_at_call 12; refine (known_any _).mono ?_; rintro _ w9 ⟨rfl, hb9⟩; have hw := bl2 hw hb9) | fail)
                refine bodyPost_ret (v := .bool true) (by simp [results, Try.results6, go_sem]) rfl ?_
                exact ⟨rfl, hw⟩
              have hQl : (b.kind == 1) = true := by simp; exact hkb
              have hl8 : l.length ≤ 60 := by omega
              have hw1 : IntKind.i64.wrap ((l.length : Int) + 1) = (l.length : Int) + 1 := IntWalk.i64_in _ ⟨by omega, by omega⟩
              have hw2 : IntKind.i64.wrap cut = cut := IntWalk.i64_in _ ⟨by omega, by omega⟩
              have hne1 : ((l.length : Int) + 1 == 0) = false := by simp; omega
              obtain ⟨k, hk, hkl⟩ : ∃ k : Nat, cut.tmod ((l.length : Int) + 1) = (k : Int) ∧ k ≤ l.length := by
                have e1 : cut.tmod ((l.length : Int) + 1) = cut % ((l.length : Int) + 1) := Int.tmod_eq_emod_of_nonneg hc0
                have e2 := Int.emod_nonneg cut (show ((l.length : Int) + 1) ≠ 0 by omega)
                have e3 := Int.emod_lt_of_pos cut (show 0 < ((l.length : Int) + 1) by omega)
                exact ⟨(cut.tmod ((l.length : Int) + 1)).toNat, by omega, by omega⟩
              clear z0 z1 z2 z3 z4 z5 z6 z7
              (have z0 := g.cell 0; have z1 := g.cell 1; have z2 := g.cell 2; have z3 := g.cell 3; have z4 := g.cell 4; have z5 := g.cell 5; have z6 := g.cell 6; have z7 := g.cell 7; simp at z0 z1 z2 z3 z4 z5 z6 z7)
              go_upto_region 15 with fail
              obtain ⟨n1, d1, hp1, hp2⟩ := bel_parts (c := c) (a := a.m) (b := b.m) (l := l) (n := rn) (d := rd) hka hkb HRES.out.symm k
              have hlt : (l.take k).length = k := by simp; omega
              have hld : (l.drop k).length = l.length - k := by simp
              have HTL : Hid (Sl intCell 1 w w.heap.size lA (l.take k)) := Lib.hid (sl_takeI HL.out hkl)
              have HIT : Hid (∀ W, Below w.heap.size w W → Calls Try.prog 15 #[.slice lA k lc] W fun e w' => ∃ B q, e = .returned (.slice B k q) ∧ Sl intCell 1 w' w'.heap.size B (l.take k) ∧ (B = none → q = 0) ∧ (l.take k).length ≤ q ∧ w'.ownsRow W.heap.size 3 1 (.slice B (l.take k).length q) (l.take k).length (flat intCell (l.take k)) ∧ Below W.heap.size W w') := Lib.hid fun W hW => lints_any lA lc k (l.take k) W hlt (by omega) HLN.out ((HTL.out.below hW).more hW.size)
              obtain ⟨A5, hA1, hA2⟩ := HL.out.from_ (fun _ => rfl) k lc hlc
              have hsl5 := fun W => ints_slice lA l.length lc k W hkl
              rw [hA1] at hsl5
              have hn5 : A5 = none → lc - k = 0 := fun e => by
                subst e
                rcases hA : lA with _ | ad
                · have := HLN.out hA; omega
                · rw [hA] at hA1
                  simp only [sliced] at hA1
                  split at hA1
                  · rename_i h9
                    have := congrArg (fun v => match v with | .slice _ _ c => c | _ => 0) hA1
                    simp at this
                    omega
                  · simp at hA1
              have HID : Hid (∀ W, Below w.heap.size w W → Calls Try.prog 15 #[.slice A5 (l.length - k) (lc - k)] W fun e w' => ∃ B q, e = .returned (.slice B (l.length - k) q) ∧ Sl intCell 1 w' w'.heap.size B (l.drop k) ∧ (B = none → q = 0) ∧ (l.drop k).length ≤ q ∧ w'.ownsRow W.heap.size 3 1 (.slice B (l.drop k).length q) (l.drop k).length (flat intCell (l.drop k)) ∧ Below W.heap.size W w') := Lib.hid fun W hW => lints_any A5 (lc - k) (l.length - k) (l.drop k) W hld (by omega) hn5 ((hA2.below hW).more hW.size)
              have HB1 : Hid (∀ W (y1 y2 : Md) B q, y1.m = a.m → y2.m = b.m → y1.reads W W.heap.size → y2.reads W W.heap.size → Sl intCell 1 W W.heap.size B (l.take k) → Calls Try.prog 16 #[.agg #[.int .i64 c.n, .int .i64 c.d], .agg #[.int .i64 y1.kind, .slice y1.a y1.rows.length y1.c, .int .i64 y1.after], .agg #[.int .i64 y2.kind, .slice y2.a y2.rows.length y2.c, .int .i64 y2.after], .slice B k q] W (RetC (n1, d1, 0) W)) := Lib.hid fun W y1 y2 B q h1 h2 h3 h4 h5 => by
                have := belF_any c y1 y2 (l.take k) B q W (by omega) h3 h4 h5
                rw [h1, h2, hp1, hlt] at this
                exact this
              have HB2 : Hid (∀ W (y1 y2 : Md) B q, y1.m = a.m → y2.m = b.m → y1.reads W W.heap.size → y2.reads W W.heap.size → Sl intCell 1 W W.heap.size B (l.drop k) → Calls Try.prog 16 #[.agg #[.int .i64 n1, .int .i64 d1], .agg #[.int .i64 y1.kind, .slice y1.a y1.rows.length y1.c, .int .i64 y1.after], .agg #[.int .i64 y2.kind, .slice y2.a y2.rows.length y2.c, .int .i64 y2.after], .slice B (l.length - k) q] W (RetC (rn, rd, 0) W)) := Lib.hid fun W y1 y2 B q h1 h2 h3 h4 h5 => by
                have := belF_any ⟨n1, d1⟩ y1 y2 (l.drop k) B q W (by omega) h3 h4 h5
                rw [h1, h2, hp2, hld] at this
                exact this
              have hs15 : ∀ W, (Instr.slice 30 (.slice lA l.length lc) none (some (.int .i64 (k : Int))) none).run Try.prog W = .ok (.slice lA k lc) W := fun W => ints_to lA l.length lc k W hkl hlc
              clear hka hkb hQk hQl hp1 hp2 hlt hld hA1 hA2 hn5 z0 z1 z2 z3 z4 z5 z6 z7 hk hw1 hw2 hne1
              clear x0 x1
              refine gen_w (fun W' => Blk W' b3 #[.int .i64 a.kind, .slice a.a a.rows.length a.c, .int .i64 a.after, .int .i64 b.kind, .slice b.a b.rows.length b.c, .int .i64 b.after, .int .i64 c.n, .int .i64 c.d] 29 ∧ Below w.heap.size w W' ∧ Blk W' b7 #[.int .i64 rn, .int .i64 rd] 27) ⟨g, hw, g7⟩ ?_
              clear g g7 hw hl3 hl7
              rintro V5 ⟨g, hw, g7⟩
              have hl7 := g7.lt; have hl3 := g.lt
              have hS : ∀ W, Below V5.heap.size V5 W → W.cell? ⟨b3, 0, none⟩ = some (.int .i64 a.kind) ∧ W.cell? ⟨b3, 1, none⟩ = some (.slice a.a a.rows.length a.c) ∧ W.cell? ⟨b3, 2, none⟩ = some (.int .i64 a.after) ∧ W.cell? ⟨b3, 3, none⟩ = some (.int .i64 b.kind) ∧ W.cell? ⟨b3, 4, none⟩ = some (.slice b.a b.rows.length b.c) ∧ W.cell? ⟨b3, 5, none⟩ = some (.int .i64 b.after) ∧ W.cell? ⟨b3, 6, none⟩ = some (.int .i64 c.n) ∧ W.cell? ⟨b3, 7, none⟩ = some (.int .i64 c.d) := fun W hW => by
                have g := g.below hW hl3
                (have z0 := g.cell 0; have z1 := g.cell 1; have z2 := g.cell 2; have z3 := g.cell 3; have z4 := g.cell 4; have z5 := g.cell 5; have z6 := g.cell 6; have z7 := g.cell 7; simp at z0 z1 z2 z3 z4 z5 z6 z7)
                exact ⟨z0, z1, z2, z3, z4, z5, z6, z7⟩
              refine' wp_region_plan 17 [16, 14, 13, 12, 11, 10, 9, 8, 7, 6, 5, 4, 3, 2, 1, 0] [.eff, .eff, .eff, .eff, .eff, .eff, .eff, .eff, .eff, .eff, .eff, .eff, .eff, .eff, .eff, .pur, .eff, .last, .post] [Det _, Det _, Det _, Det _, OwnM a.m, Det _, Det _, OwnM b.m, Det _, Det _, Det (.slice lA k lc), IntsF (l.take k) k, Det (.tuple #[.agg #[.int .i64 n1, .int .i64 d1], .int .i64 0]), Det (.tuple #[.agg #[.int .i64 n1, .int .i64 d1], .int .i64 0]), Det (.agg #[.int .i64 n1, .int .i64 d1]), Det (.int .i64 0), newB V5 #[.int .i64 0, .int .i64 0] 27, noF, Det (.int .i64 0)] (by rfl) [(16, 14), (14, 136)] [(18, 15), (16, 14), (15, 137), (14, 136), (13, 122), (12, 135), (11, 134), (10, 133), (9, 132), (8, 131), (7, 130), (6, 129), (5, 128), (4, 127), (3, 126), (2, 125), (1, 124), (0, 123)] (by kernel_rfl) (by kernel_rfl) (by kernel_rfl) (by kernel_rfl) (by kernel_rfl) (by kernel_rfl) (by kernel_rfl) (by kernel_rfl) (by kernel_rfl) rfl ?hps ?hends ?hsts
              case hps =>
                refine And.intro ⟨[], by kernel_rfl, fun xs W hW hf K hK => opV_free rfl ?_⟩ ?_
                focus (have hs := hS W hW; (try simp only [factsL] at hf); (try simp only [putL]); (try simp only [hf]); go_simp; refine hK.out _ _ (Below.refl _ _) ?_; unfold Det; rfl)
                refine And.intro ⟨[(0, 123)], by kernel_rfl, fun xs W hW hf K hK => opV_free rfl ?_⟩ ?_
                focus (have hs := hS W hW; (try simp only [factsL, pickF, Det, and_true] at hf); (try simp only [putL, Act.put, List.setIfInBounds_toArray, List.set_cons_zero, List.set_cons_succ]); (try simp only [hf]); go_simp; refine hK.out _ _ (Below.refl _ _) ?_; unfold Det; rfl)
                refine And.intro ⟨[], by kernel_rfl, fun xs W hW hf K hK => opV_free rfl ?_⟩ ?_
                focus (have hs := hS W hW; (try simp only [factsL] at hf); (try simp only [putL]); (try simp only [hf]); go_simp; refine hK.out _ _ (Below.refl _ _) ?_; unfold Det; rfl)
                refine And.intro ⟨[(2, 125)], by kernel_rfl, fun xs W hW hf K hK => opV_free rfl ?_⟩ ?_
                focus (have hs := hS W hW; (try simp only [factsL, pickF, Det, and_true] at hf); (try simp only [putL, Act.put, List.setIfInBounds_toArray, List.set_cons_zero, List.set_cons_succ]); (try simp only [hf]); go_simp; refine hK.out _ _ (Below.refl _ _) ?_; unfold Det; rfl)
                refine And.intro ⟨[(3, 126)], by kernel_rfl, fun xs W hW hf K hK => opV_free rfl ?_⟩ ?_
                · simp only [factsL, pickF, Det, and_true] at hf
                  (try simp only [putL, Act.put, List.setIfInBounds_toArray, List.set_cons_zero, List.set_cons_succ])
                  simp only [hf]
                  go_simp
                  refine (HOA.out _ (bl2 hw hW)).mono ?_
                  rintro _ w9 ⟨y, rfl, hy, hr, hb9⟩
                  exact ⟨_, rfl, hK.out _ _ hb9 ⟨y, rfl, hy, hr⟩⟩
                refine And.intro ⟨[], by kernel_rfl, fun xs W hW hf K hK => opV_free rfl ?_⟩ ?_
                focus (have hs := hS W hW; (try simp only [factsL] at hf); (try simp only [putL]); (try simp only [hf]); go_simp; refine hK.out _ _ (Below.refl _ _) ?_; unfold Det; rfl)
                refine And.intro ⟨[(5, 128)], by kernel_rfl, fun xs W hW hf K hK => opV_free rfl ?_⟩ ?_
                focus (have hs := hS W hW; (try simp only [factsL, pickF, Det, and_true] at hf); (try simp only [putL, Act.put, List.setIfInBounds_toArray, List.set_cons_zero, List.set_cons_succ]); (try simp only [hf]); go_simp; refine hK.out _ _ (Below.refl _ _) ?_; unfold Det; rfl)
                refine And.intro ⟨[(6, 129)], by kernel_rfl, fun xs W hW hf K hK => opV_free rfl ?_⟩ ?_
                · simp only [factsL, pickF, Det, and_true] at hf
                  (try simp only [putL, Act.put, List.setIfInBounds_toArray, List.set_cons_zero, List.set_cons_succ])
                  simp only [hf]
                  go_simp
                  refine (HOB.out _ (bl2 hw hW)).mono ?_
                  rintro _ w9 ⟨y, rfl, hy, hr, hb9⟩
                  exact ⟨_, rfl, hK.out _ _ hb9 ⟨y, rfl, hy, hr⟩⟩
                refine And.intro ⟨[], by kernel_rfl, fun xs W hW hf K hK => opV_free rfl ?_⟩ ?_
                focus (have hs := hS W hW; (try simp only [factsL] at hf); (try simp only [putL]); (try simp only [hf]); go_simp; refine hK.out _ _ (Below.refl _ _) ?_; unfold Det; rfl)
                refine And.intro ⟨[], by kernel_rfl, fun xs W hW hf K hK => opV_free rfl ?_⟩ ?_
                focus (have hs := hS W hW; (try simp only [factsL] at hf); (try simp only [putL]); (try simp only [hf]); go_simp; refine hK.out _ _ (Below.refl _ _) ?_; unfold Det; rfl)
                refine And.intro ⟨[(9, 132), (8, 131)], by kernel_rfl, fun xs W hW hf K hK => opV_free rfl ?_⟩ ?_
                focus (have hs := hS W hW; (try simp only [factsL, pickF, Det, and_true] at hf); (try simp only [putL, Act.put, List.setIfInBounds_toArray, List.set_cons_zero, List.set_cons_succ]); (try simp only [hf]); go_simp; refine hK.out _ _ (Below.refl _ _) ?_; unfold Det; rfl)
                refine And.intro ⟨[(10, 133)], by kernel_rfl, fun xs W hW hf K hK => opV_free rfl ?_⟩ ?_
                · simp only [factsL, pickF, Det, and_true] at hf
                  (try simp only [putL, Act.put, List.setIfInBounds_toArray, List.set_cons_zero, List.set_cons_succ])
                  simp only [hf]
                  go_simp
                  refine (HIT.out _ (bl2 hw hW)).mono ?_
                  rintro _ w9 ⟨B, k, rfl, hs, -, -, -, hb9⟩
                  exact ⟨_, rfl, hK.out _ _ hb9 ⟨B, k, rfl, hs⟩⟩
                refine And.intro ⟨[(11, 134), (7, 130), (4, 127), (1, 124)], by kernel_rfl, fun xs W hW hf K hK => opV_free rfl ?_⟩ ?_
                · simp only [factsL, pickF, Det, and_true] at hf
                  (try simp only [putL, Act.put, List.setIfInBounds_toArray, List.set_cons_zero, List.set_cons_succ])
                  obtain ⟨⟨B, k, e1, hs⟩, ⟨y2, e2, hy2, hr2⟩, ⟨y1, e3, hy1, hr1⟩, e4⟩ := hf
                  simp only [e1, e2, e3, e4]
                  go_simp
                  refine (HB1.out _ y1 y2 B k hy1 hy2 hr1 hr2 hs).mono ?_
                  rintro _ w9 ⟨rfl, hb9⟩
                  exact ⟨_, rfl, hK.out _ _ hb9 rfl⟩
                refine And.intro ⟨[(12, 135)], by kernel_rfl, fun xs W hW hf K hK => opV_free rfl ?_⟩ ?_
                focus (have hs := hS W hW; (try simp only [factsL, pickF, Det, and_true] at hf); (try simp only [putL, Act.put, List.setIfInBounds_toArray, List.set_cons_zero, List.set_cons_succ]); (try simp only [hf]); go_simp; refine hK.out _ _ (Below.refl _ _) ?_; unfold Det; rfl)
                refine And.intro ⟨[(13, 122)], by kernel_rfl, fun xs W hW hf K hK => opV_free rfl ?_⟩ ?_
                focus (have hs := hS W hW; (try simp only [factsL, pickF, Det, and_true] at hf); (try simp only [putL, Act.put, List.setIfInBounds_toArray, List.set_cons_zero, List.set_cons_succ]); (try simp only [hf]); go_simp; refine hK.out _ _ (Below.refl _ _) ?_; unfold Det; rfl)
                refine And.intro ⟨[(13, 122)], by kernel_rfl, fun xs W hW hf => ⟨_, det_rfl, yields_free rfl (fun w => ?_)⟩⟩ ?_
                focus ((try simp only [factsL, pickF, Det, and_true] at hf); (try simp only [putL, Act.put, List.setIfInBounds_toArray, List.set_cons_zero, List.set_cons_succ]); (try simp only [hf]); go_simp)
                refine And.intro ⟨[], by kernel_rfl, fun xs W hW hf K hK => opV_free rfl ?_⟩ ?_
                · simp only [factsL] at hf
                  (try simp only [putL])
                  go_simp
                  exact hK.out _ _ ((Below.refl _ _).alloc (Nat.le_refl _) _) ⟨_, rfl, Blk.new _ _ _, hW.size⟩
                refine And.intro ⟨[(15, 137)], by kernel_rfl, fun xs W hW hf => ⟨_, det_rfl, yields_free rfl (fun w => ?_)⟩⟩ ?_
                focus ((try simp only [factsL, pickF, Det, and_true] at hf); (try simp only [putL, Act.put, List.setIfInBounds_toArray, List.set_cons_zero, List.set_cons_succ]); (try simp only [hf]); go_simp)
                trivial
              case hsts => exact ⟨det_stays, det_stays, det_stays, det_stays, OwnM.stays, det_stays, det_stays, OwnM.stays, det_stays, det_stays, det_stays, IntsF.stays, det_stays, det_stays, det_stays, det_stays, newB_stays, noF_stays, det_stays, trivial⟩
              case hends =>
                intro xs W hW hf
                simp only [factsA, Det, noF, Nat.zero_add, Nat.reduceAdd, and_true, true_and] at hf
                obtain ⟨f0, f1, f2, f3, f4, f5, f6, f7, f8, f9, f10, f11, f12, f13, f14, f15, ⟨b14, f16, g14, hz14⟩, f18⟩ := hf
                refine opV_free rfl ?_
                (simp only [putL, Act.put, upd, List.setIfInBounds_toArray, List.set_cons_zero, List.set_cons_succ])
                simp only [f0, f1, f2, f3, f5, f6, f8, f9, f10, f12, f13, f14, f15, f16, f18]
                have hB0 := g14.free 0; have hB1 := g14.free 1
                have hC0 := g14.cell 0; have hC1 := g14.cell 1
                simp at hC0 hC1
                have g := g.below hW hl3
                have g7 := g7.below hW hl7
                have hW3 := hW.size
                go_simp
                refine gen_w (fun W' => Blk W' b3 #[.int .i64 a.kind, .slice a.a a.rows.length a.c, .int .i64 a.after, .int .i64 b.kind, .slice b.a b.rows.length b.c, .int .i64 b.after, .int .i64 c.n, .int .i64 c.d] 29 ∧ Below w.heap.size w W' ∧ Blk W' b7 #[.int .i64 rn, .int .i64 rd] 27 ∧ Blk W' b14 #[.int .i64 n1, .int .i64 d1] 27) ⟨(g.far ⟨b14, 0, none⟩ (by show b3 ≠ b14; omega) _).far ⟨b14, 1, none⟩ (by show b3 ≠ b14; omega) _, ((bl2 hw hW).setCell (p := ⟨b14, 0, none⟩) (by show w.heap.size ≤ b14; have := hw.size; omega) _).setCell (p := ⟨b14, 1, none⟩) (by show w.heap.size ≤ b14; have := hw.size; omega) _, (g7.far ⟨b14, 0, none⟩ (by show b7 ≠ b14; omega) _).far ⟨b14, 1, none⟩ (by show b7 ≠ b14; omega) _, by have := (g14.set 0 (.int .i64 n1)).set 1 (.int .i64 d1); simp at this; exact this⟩ ?_
                clear g7 g14 hB0 hB1 hC0 hC1 g hW hS hW3 hw f0 f1 f2 f3 f4 f5 f6 f7 f8 f9 f10 f11 f12 f13 f14 f15 f16 f18 hl3 hl7
                rintro V6 ⟨g, hw, g7, g14⟩
                have hl7 := g7.lt; have hl3 := g.lt; have hl14 := g14.lt
                go_upto_region 16 with fail
                have hS : ∀ W, Below V6.heap.size V6 W → W.cell? ⟨b3, 0, none⟩ = some (.int .i64 a.kind) ∧ W.cell? ⟨b3, 1, none⟩ = some (.slice a.a a.rows.length a.c) ∧ W.cell? ⟨b3, 2, none⟩ = some (.int .i64 a.after) ∧ W.cell? ⟨b3, 3, none⟩ = some (.int .i64 b.kind) ∧ W.cell? ⟨b3, 4, none⟩ = some (.slice b.a b.rows.length b.c) ∧ W.cell? ⟨b3, 5, none⟩ = some (.int .i64 b.after) ∧ W.cell? ⟨b3, 6, none⟩ = some (.int .i64 c.n) ∧ W.cell? ⟨b3, 7, none⟩ = some (.int .i64 c.d) ∧ W.cell? ⟨b14, 0, none⟩ = some (.int .i64 n1) ∧ W.cell? ⟨b14, 1, none⟩ = some (.int .i64 d1) := fun W hW => by
                  have g := g.below hW hl3
                  (have z0 := g.cell 0; have z1 := g.cell 1; have z2 := g.cell 2; have z3 := g.cell 3; have z4 := g.cell 4; have z5 := g.cell 5; have z6 := g.cell 6; have z7 := g.cell 7; simp at z0 z1 z2 z3 z4 z5 z6 z7)
                  have g14 := g14.below hW hl14
                  have y0 := g14.cell 0; have y1 := g14.cell 1
                  simp at y0 y1
                  exact ⟨z0, z1, z2, z3, z4, z5, z6, z7, y0, y1⟩
                refine' wp_region_plan 16 [15, 13, 12, 11, 10, 9, 8, 7, 6, 5, 4, 3, 2, 1, 0] [.eff, .eff, .eff, .eff, .eff, .eff, .eff, .eff, .eff, .eff, .eff, .eff, .eff, .eff, .pur, .eff, .last, .post] [Det _, Det _, Det _, OwnM a.m, Det _, Det _, OwnM b.m, Det _, Det _, Det (.slice A5 (l.length - k) (lc - k)), IntsF (l.drop k) (l.length - k), Det (.tuple #[.agg #[.int .i64 rn, .int .i64 rd], .int .i64 0]), Det (.tuple #[.agg #[.int .i64 rn, .int .i64 rd], .int .i64 0]), Det (.agg #[.int .i64 rn, .int .i64 rd]), Det (.int .i64 0), newB V6 #[.int .i64 0, .int .i64 0] 27, noF, Det (.int .i64 0)] (by rfl) [(15, 16), (13, 151)] [(17, 17), (15, 16), (14, 152), (13, 151), (12, 138), (11, 150), (10, 149), (9, 148), (8, 147), (7, 146), (6, 145), (5, 144), (4, 143), (3, 142), (2, 141), (1, 140), (0, 139)] (by kernel_rfl) (by kernel_rfl) (by kernel_rfl) (by kernel_rfl) (by kernel_rfl) (by kernel_rfl) (by kernel_rfl) (by kernel_rfl) (by kernel_rfl) rfl ?hpvs ?hendvs ?hstvs
                case hpvs =>
                  refine And.intro ⟨[], by kernel_rfl, fun xs W hW hf K hK => opV_free rfl ?_⟩ ?_
                  focus (have hs := hS W hW; (try simp only [factsL] at hf); (try simp only [putL]); (try simp only [hf]); go_simp; refine hK.out _ _ (Below.refl _ _) ?_; unfold Det; rfl)
                  refine And.intro ⟨[], by kernel_rfl, fun xs W hW hf K hK => opV_free rfl ?_⟩ ?_
                  focus (have hs := hS W hW; (try simp only [factsL] at hf); (try simp only [putL]); (try simp only [hf]); go_simp; refine hK.out _ _ (Below.refl _ _) ?_; unfold Det; rfl)
                  refine And.intro ⟨[(1, 140)], by kernel_rfl, fun xs W hW hf K hK => opV_free rfl ?_⟩ ?_
                  focus (have hs := hS W hW; (try simp only [factsL, pickF, Det, and_true] at hf); (try simp only [putL, Act.put, List.setIfInBounds_toArray, List.set_cons_zero, List.set_cons_succ]); (try simp only [hf]); go_simp; refine hK.out _ _ (Below.refl _ _) ?_; unfold Det; rfl)
                  refine And.intro ⟨[(2, 141)], by kernel_rfl, fun xs W hW hf K hK => opV_free rfl ?_⟩ ?_
                  · simp only [factsL, pickF, Det, and_true] at hf
                    (try simp only [putL, Act.put, List.setIfInBounds_toArray, List.set_cons_zero, List.set_cons_succ])
                    simp only [hf]
                    go_simp
                    refine (HOA.out _ (bl2 hw hW)).mono ?_
                    rintro _ w9 ⟨y, rfl, hy, hr, hb9⟩
                    exact ⟨_, rfl, hK.out _ _ hb9 ⟨y, rfl, hy, hr⟩⟩
                  refine And.intro ⟨[], by kernel_rfl, fun xs W hW hf K hK => opV_free rfl ?_⟩ ?_
                  focus (have hs := hS W hW; (try simp only [factsL] at hf); (try simp only [putL]); (try simp only [hf]); go_simp; refine hK.out _ _ (Below.refl _ _) ?_; unfold Det; rfl)
                  refine And.intro ⟨[(4, 143)], by kernel_rfl, fun xs W hW hf K hK => opV_free rfl ?_⟩ ?_
                  focus (have hs := hS W hW; (try simp only [factsL, pickF, Det, and_true] at hf); (try simp only [putL, Act.put, List.setIfInBounds_toArray, List.set_cons_zero, List.set_cons_succ]); (try simp only [hf]); go_simp; refine hK.out _ _ (Below.refl _ _) ?_; unfold Det; rfl)
                  refine And.intro ⟨[(5, 144)], by kernel_rfl, fun xs W hW hf K hK => opV_free rfl ?_⟩ ?_
                  · simp only [factsL, pickF, Det, and_true] at hf
                    (try simp only [putL, Act.put, List.setIfInBounds_toArray, List.set_cons_zero, List.set_cons_succ])
                    simp only [hf]
                    go_simp
                    refine (HOB.out _ (bl2 hw hW)).mono ?_
                    rintro _ w9 ⟨y, rfl, hy, hr, hb9⟩
                    exact ⟨_, rfl, hK.out _ _ hb9 ⟨y, rfl, hy, hr⟩⟩
                  refine And.intro ⟨[], by kernel_rfl, fun xs W hW hf K hK => opV_free rfl ?_⟩ ?_
                  focus (have hs := hS W hW; (try simp only [factsL] at hf); (try simp only [putL]); (try simp only [hf]); go_simp; refine hK.out _ _ (Below.refl _ _) ?_; unfold Det; rfl)
                  refine And.intro ⟨[], by kernel_rfl, fun xs W hW hf K hK => opV_free rfl ?_⟩ ?_
                  focus (have hs := hS W hW; (try simp only [factsL] at hf); (try simp only [putL]); (try simp only [hf]); go_simp; refine hK.out _ _ (Below.refl _ _) ?_; unfold Det; rfl)
                  refine And.intro ⟨[(8, 147), (7, 146)], by kernel_rfl, fun xs W hW hf K hK => opV_free rfl ?_⟩ ?_
                  focus (have hs := hS W hW; (try simp only [factsL, pickF, Det, and_true] at hf); (try simp only [putL, Act.put, List.setIfInBounds_toArray, List.set_cons_zero, List.set_cons_succ]); (try simp only [hf]); go_simp; refine hK.out _ _ (Below.refl _ _) ?_; unfold Det; rfl)
                  refine And.intro ⟨[(9, 148)], by kernel_rfl, fun xs W hW hf K hK => opV_free rfl ?_⟩ ?_
                  · simp only [factsL, pickF, Det, and_true] at hf
                    (try simp only [putL, Act.put, List.setIfInBounds_toArray, List.set_cons_zero, List.set_cons_succ])
                    simp only [hf]
                    go_simp
                    refine (HID.out _ (bl2 hw hW)).mono ?_
                    rintro _ w9 ⟨B, k, rfl, hs, -, -, -, hb9⟩
                    exact ⟨_, rfl, hK.out _ _ hb9 ⟨B, k, rfl, hs⟩⟩
                  refine And.intro ⟨[(10, 149), (6, 145), (3, 142), (0, 139)], by kernel_rfl, fun xs W hW hf K hK => opV_free rfl ?_⟩ ?_
                  · simp only [factsL, pickF, Det, and_true] at hf
                    (try simp only [putL, Act.put, List.setIfInBounds_toArray, List.set_cons_zero, List.set_cons_succ])
                    obtain ⟨⟨B, k, e1, hs⟩, ⟨y2, e2, hy2, hr2⟩, ⟨y1, e3, hy1, hr1⟩, e4⟩ := hf
                    simp only [e1, e2, e3, e4]
                    go_simp
                    refine (HB2.out _ y1 y2 B k hy1 hy2 hr1 hr2 hs).mono ?_
                    rintro _ w9 ⟨rfl, hb9⟩
                    exact ⟨_, rfl, hK.out _ _ hb9 rfl⟩
                  refine And.intro ⟨[(11, 150)], by kernel_rfl, fun xs W hW hf K hK => opV_free rfl ?_⟩ ?_
                  focus (have hs := hS W hW; (try simp only [factsL, pickF, Det, and_true] at hf); (try simp only [putL, Act.put, List.setIfInBounds_toArray, List.set_cons_zero, List.set_cons_succ]); (try simp only [hf]); go_simp; refine hK.out _ _ (Below.refl _ _) ?_; unfold Det; rfl)
                  refine And.intro ⟨[(12, 138)], by kernel_rfl, fun xs W hW hf K hK => opV_free rfl ?_⟩ ?_
                  focus (have hs := hS W hW; (try simp only [factsL, pickF, Det, and_true] at hf); (try simp only [putL, Act.put, List.setIfInBounds_toArray, List.set_cons_zero, List.set_cons_succ]); (try simp only [hf]); go_simp; refine hK.out _ _ (Below.refl _ _) ?_; unfold Det; rfl)
                  refine And.intro ⟨[(12, 138)], by kernel_rfl, fun xs W hW hf => ⟨_, det_rfl, yields_free rfl (fun w => ?_)⟩⟩ ?_
                  focus ((try simp only [factsL, pickF, Det, and_true] at hf); (try simp only [putL, Act.put, List.setIfInBounds_toArray, List.set_cons_zero, List.set_cons_succ]); (try simp only [hf]); go_simp)
                  refine And.intro ⟨[], by kernel_rfl, fun xs W hW hf K hK => opV_free rfl ?_⟩ ?_
                  · simp only [factsL] at hf
                    (try simp only [putL])
                    go_simp
                    exact hK.out _ _ ((Below.refl _ _).alloc (Nat.le_refl _) _) ⟨_, rfl, Blk.new _ _ _, hW.size⟩
                  refine And.intro ⟨[(14, 152)], by kernel_rfl, fun xs W hW hf => ⟨_, det_rfl, yields_free rfl (fun w => ?_)⟩⟩ ?_
                  focus ((try simp only [factsL, pickF, Det, and_true] at hf); (try simp only [putL, Act.put, List.setIfInBounds_toArray, List.set_cons_zero, List.set_cons_succ]); (try simp only [hf]); go_simp)
                  trivial
                case hstvs => exact ⟨det_stays, det_stays, det_stays, OwnM.stays, det_stays, det_stays, OwnM.stays, det_stays, det_stays, det_stays, IntsF.stays, det_stays, det_stays, det_stays, det_stays, newB_stays, noF_stays, det_stays, trivial⟩
                case hendvs =>
                  intro xs W hW hf
                  simp only [factsA, Det, noF, Nat.zero_add, Nat.reduceAdd, and_true, true_and] at hf
                  obtain ⟨f0, f1, f2, f3, f4, f5, f6, f7, f8, f9, f10, f11, f12, f13, f14, ⟨b16, f15, g16, hz16⟩, f17⟩ := hf
                  refine opV_free rfl ?_
                  (simp only [putL, Act.put, upd, List.setIfInBounds_toArray, List.set_cons_zero, List.set_cons_succ])
                  simp only [f0, f1, f2, f4, f5, f7, f8, f9, f11, f12, f13, f14, f15, f17]
                  have hB0 := g16.free 0; have hB1 := g16.free 1
                  have hC0 := g16.cell 0; have hC1 := g16.cell 1
                  simp at hC0 hC1
                  have g7 := g7.below hW hl7
                  have hW3 := hW.size
                  go_simp
                  refine gen_w (fun W' => Below w.heap.size w W' ∧ Blk W' b7 #[.int .i64 rn, .int .i64 rd] 27 ∧ Blk W' b16 #[.int .i64 rn, .int .i64 rd] 27) ⟨((bl2 hw hW).setCell (p := ⟨b16, 0, none⟩) (by show w.heap.size ≤ b16; have := hw.size; omega) _).setCell (p := ⟨b16, 1, none⟩) (by show w.heap.size ≤ b16; have := hw.size; omega) _, (g7.far ⟨b16, 0, none⟩ (by show b7 ≠ b16; omega) _).far ⟨b16, 1, none⟩ (by show b7 ≠ b16; omega) _, by have := (g16.set 0 (.int .i64 rn)).set 1 (.int .i64 rd); simp at this; exact this⟩ ?_
                  clear g7 g14 g16 hB0 hB1 hC0 hC1 g hW hS hW3 hw f0 f1 f2 f3 f4 f5 f6 f7 f8 f9 f10 f11 f12 f13 f14 f15 f17 hl3 hl7
                  rintro V7 ⟨hw, g7, g16⟩
                  have x0 := g7.cell 0; have x1 := g7.cell 1; have y0 := g16.cell 0; have y1 := g16.cell 1
                  simp at x0 x1 y0 y1
                  go_wp2_with (first | (go_at_call 12; refine (known_any _).mono ?_; rintro _ w9 ⟨rfl, hb9⟩; have hw := bl2 hw hb9) | fail)
                  refine bodyPost_ret (v := .bool true) (by simp [results, Try.results6, go_sem]) rfl ?_
                  exact ⟨rfl, hw⟩
            --D>
    · obtain ⟨e1, e2⟩ := belR_err (c := c) (a := a.m) (b := b.m) (l := l) (by rw [← HRES.out]; exact hre)
      rw [← HRES.out] at e1 e2
      simp only at e1 e2
      subst e1; subst e2
      have hQr : (re != 0) = true := by simp; exact hre
      have x0 := g7.cell 0; have x1 := g7.cell 1
      simp at x0 x1
      go_wp2_with (first | (go_at_call 12; refine (known_any _).mono ?_; rintro _ w9 ⟨rfl, hb9⟩; have hw := bl2 hw hb9) | fail)
      refine bodyPost_ret (v := .bool true) (by simp [results, Try.results6, go_sem]) rfl ?_
      exact ⟨rfl, hw⟩
end Go.Proofs.Ytiikkcifdhcejaa

/- School: Read, whose lists lie in new memory. (Made by a program out of XScP.) -/
import Derived.Test.YtidlmbajpbbilaaZ19HlA
namespace Go.Proofs.Ytidlmbajpbbilaa
open Go.RowKit

/-- a reading and an error are returned; the lists are new -/
def RetReadN (x : Int × List Int × List Int × Int) (w : World) (e : Ending) (w' : World) : Prop :=
  ∃ A c A2 c2, e = .returned (.tuple #[.agg #[.int .i64 x.1, .slice A x.2.1.length c, .slice A2 x.2.2.1.length c2], .int .i64 x.2.2.2]) ∧ w'.ownsRow 0 3 1 (.slice A x.2.1.length c) x.2.1.length (flat intCell x.2.1) ∧ w'.ownsRow 0 3 1 (.slice A2 x.2.2.1.length c2) x.2.2.1.length (flat intCell x.2.2.1) ∧ Below w.heap.size w w'
theorem retReadN_nil {er : Int} {w w' : World} (h : Below w.heap.size w w') : RetReadN (0, [], [], er) w (.returned (.tuple #[.agg #[.int .i64 0, .slice none 0 0, .slice none 0 0], .int .i64 er])) w' :=
  ⟨none, 0, none, 0, rfl, World.ownsRow_nil _ _ _ _, World.ownsRow_nil _ _ _ _, h⟩

set_option maxRecDepth 100000 in
set_option maxHeartbeats 2000000 in
theorem read_new (s : Sch) (ch : List Int) (kind : Int) (A : Option Addr) (c : Nat) (w : World) (hr : s.reads w w.heap.size) (hl : ch.length ≤ 1000000) (hA : Sl intCell 1 w w.heap.size A ch) :
    Calls Try.prog 33 #[scv s s.rv, .slice A ch.length c, .int .i64 kind] w (RetReadN (readR s ch kind) w) := by
  by_cases vs : schB s = true
  · have V := valid_of hr.oks vs
    have HC := fun W (hW : Below w.heap.size w W) => Lib.hid (chk_any vs W ((hr.below hW).more hW.size))
    have HI := fun W (hW : Below w.heap.size w W) => Lib.hid (isChart_any s s.rv A c ch W V.small hl ((hA.below hW).more hW.size))
    have HK := fun W => Lib.hid (isKind_any s s.rv kind W V.kinds.1 V.kinds.2)
    by_cases hc : chartB s ch = true
    · rw [hc] at HI
      by_cases hk : inB kind 0 (s.kinds - 1) = true
      · rw [hk] at HK
        have kin := inB_iff.1 hk
        have HR : Hid (readR s ch kind = (kindOf ((List.range 20).filter (ansOf s 0 kind ch)), bitsOf (ansN s 0 kind ch), bitsOf (mainN s 0 kind ch), 0)) := (by simp [readR, vs, hc, hk] : readR s ch kind = _)
        have hlen : ch.length = s.places.toNat := by simp [chartB] at hc; omega
        have hfs : ∀ x ∈ ch, 0 ≤ x ∧ x ≤ 63 := fun x h => by
          simp [chartB, inB] at hc
          have := hc.2 _ h; have := V.signs; omega
        have HQ := fun W (hW : Below w.heap.size w W) => Lib.hid (asks0 (c := c) V ((hr.below hW).more hW.size) kin.1 (by omega) rfl hlen hfs ((hA.below hW).more hW.size))
        have HKD := fun W => Lib.hid (show Calls Try.prog 58 #[.int .u32 ((ansN s 0 kind ch : Nat) : Int)] W _ from kind_any (ansOf s 0 kind ch) W)
        have HLA := fun W => Lib.hid (listA_any (ansN s 0 kind ch) (Nat.lt_of_lt_of_le (bset_lt _ _) (by decide)) W)
        have HLR := fun W => Lib.hid (listR_any (mainN s 0 kind ch) (Nat.lt_of_lt_of_le (bset_lt _ _) (Nat.le_trans (Nat.pow_le_pow_right (by omega) (show s.rules.length ≤ 31 by have := V.len; omega)) (by decide))) W)
        obtain ⟨kd, hkd⟩ : ∃ k, k = kindOf ((List.range 20).filter (ansOf s 0 kind ch)) := ⟨_, rfl⟩
        rw [← hkd] at HKD HR
        clear hc hk vs hlen hfs hkd
        go_enter Try.func33, Try.ntmps33
        go_wp2_with fail
        refine ((HC _ (by (repeat (first | exact Below.refl _ _ | assumption | (refine Below.alloc ?_ (by first | omega | (simp; omega) | (simp; done)) _) | (refine Below.setCell ?_ (by first | omega | (simp; omega) | (simp; done)) _) | (refine Below.drew ?_) | (refine belowN ?_ _) | (refine Below.trans ?_ (Below.mono ‹Below _ _ _› (by first | omega | (simp; omega) | (simp; done)))))))).out).mono ?_
        rintro e w1 ⟨rfl, hb1⟩
        have hc1 := fun b o (h : b < w.heap.size + 2) => (bcell hb1).1 b o (by simp; omega)
        have hf1 := fun b o (h : b < w.heap.size + 2) => (bcell hb1).2 b o (by simp; omega)
        have hk1 := fun b (h : b < w.heap.size + 2) => hb1.block b (by simp; omega)
        have hz1 : w.heap.size + 2 ≤ w1.heap.size := (by have := hb1.size; simp at this; omega)
        go_wp2_with fail
        refine ((HI _ (by (repeat (first | exact Below.refl _ _ | assumption | (refine Below.alloc ?_ (by first | omega | (simp; omega) | (simp; done)) _) | (refine Below.setCell ?_ (by first | omega | (simp; omega) | (simp; done)) _) | (refine Below.drew ?_) | (refine belowN ?_ _) | (refine Below.trans ?_ (Below.mono ‹Below _ _ _› (by first | omega | (simp; omega) | (simp; done)))))))).out).mono ?_
        rintro e w2 ⟨rfl, hb2⟩
        have hc2 := fun b o (h : b < w.heap.size + 2) => ((bcell hb2).1 b o (by omega)).trans (hc1 b o h)
        have hf2 := fun b o (h : b < w.heap.size + 2) => ((bcell hb2).2 b o (by omega)).trans (hf1 b o h)
        have hk2 := fun b (h : b < w.heap.size + 2) => (hb2.block b (by omega)).trans (hk1 b h)
        have hz2 : w.heap.size + 2 ≤ w2.heap.size := (by have := hb2.size; omega)
        go_wp2_with fail
        refine ((HK _).out).mono ?_
        rintro e w3 ⟨rfl, hb3⟩
        have hc3 := fun b o (h : b < w.heap.size + 2) => ((bcell hb3).1 b o (by omega)).trans (hc2 b o h)
        have hf3 := fun b o (h : b < w.heap.size + 2) => ((bcell hb3).2 b o (by omega)).trans (hf2 b o h)
        have hk3 := fun b (h : b < w.heap.size + 2) => (hb3.block b (by omega)).trans (hk2 b h)
        have hz3 : w.heap.size + 2 ≤ w3.heap.size := (by have := hb3.size; omega)
        go_wp2
        refine wp_world (fun W => Below w.heap.size w W ∧ W.heap.size = w3.heap.size + 1 ∧ Blk W (w.heap.size + 1) #[.int .i64 0, .slice none 0 0, .slice none 0 0] 73 ∧ Blk W w3.heap.size #[.int .i64 s.places, .int .i64 s.signs, .int .i64 s.kinds, .int .i64 s.answers, s.rv, .int .u32 0] 108) ?_ ?_
        · exact ⟨by (repeat (first | exact Below.refl _ _ | assumption | (refine Below.alloc ?_ (by first | omega | (simp; omega) | (simp; done)) _) | (refine Below.setCell ?_ (by first | omega | (simp; omega) | (simp; done)) _) | (refine Below.drew ?_) | (refine belowN ?_ _) | (refine Below.trans ?_ (Below.mono ‹Below _ _ _› (by first | omega | (simp; omega) | (simp; done)))))), by simp, Blk.alloc (W := w3) ((hk3 (w.heap.size + 1) (by omega)).trans (Blk.at_ (by simp))) _, Blk.at_ rfl⟩
        rintro Wl ⟨hbl, hsz, gX, gR⟩
        have HL := Lib.hid hbl
        have HQ0 := HQ Wl hbl
        have cR := gR.cell
        have cX := gX.cell
        have GX := Lib.hid gX
        have hzl : w.heap.size + 2 ≤ w3.heap.size := hz3
        clear gX gR hc1 hc2 hc3 hf1 hf2 hf3 hb1 hb2 hb3 HC HI HK hz1 hz2 hz3 cX hbl
        have R0 := cR 0; have R1 := cR 1; have R2 := cR 2; have R3 := cR 3; have R4 := cR 4; have R5 := cR 5
        simp at R0 R1 R2 R3 R4 R5
        clear cR
        (refine wp_region_ext (by kernel_rfl) (by kernel_rfl) ?_; (repeat (go_big_quiet_step((first | (go_at_call 57; with_reducible exact Calls.ext_of (HQ0.out.apply _ (Grow.h _))) | (go_at_call 56; with_reducible exact Calls.ext_of (HQ0.out.speak _ (Grow.h _))))))); with_reducible refine wpQuiet_nil ?_; intro w1 hw1; have hb1 := ext_below hw1; clear hw1)
        have HB1 := Lib.hid hb1
        have hd1 := fun b o (h : b < w3.heap.size + 1) => (bcell hb1).1 b o (by omega)
        go_wp2_with fail
        refine (HQ0.out.say _ (by exact HB1.out)).mono ?_
        rintro e w2 ⟨rfl, hb2⟩
        go_wp2_with fail
        refine ((HKD _).out).mono ?_
        rintro e w3' ⟨rfl, hb3⟩
        go_wp2_with fail
        refine ((HLA _).out).mono ?_
        rintro e w4 ⟨v, rfl, hown, hb4⟩
        obtain ⟨A4, c4, rfl, -⟩ := NewSl.of_own hown
        have HA4 := Lib.hid hown
        clear hown
        go_wp2_with fail
        refine ((HLR _).out).mono ?_
        rintro e w5 ⟨v, rfl, hown, hb5⟩
        obtain ⟨A5, c5, rfl, -⟩ := NewSl.of_own hown
        have HA5 := Lib.hid hown
        clear hown
        have z1 := hb1.size; have z2 := hb2.size; have z3 := hb3.size; have z4 := hb4.size; have z5 := hb5.size
        have hbel5 : Below Wl.heap.size Wl w5 := (((hb1.trans (hb2.mono z1)).trans (hb3.mono (by omega))).trans (hb4.mono (by omega))).trans (hb5.mono (by omega))
        have gX5 := GX.out.below hbel5 (by omega)
        have cX := gX5.cell
        have fX := gX5.free
        have X0 := cX 0; have X1 := cX 1; have X2 := cX 2
        have F0 := fX 0; have F1 := fX 1; have F2 := fX 2
        simp at X0 X1 X2
        have HB5 := Lib.hid hbel5
        have HB45 := Lib.hid hb5
        clear cX fX gX5 hbel5 hb1 hb2 hb3 hb4 hb5
        go_wp2
        refine bodyPost_ret (v := .tuple #[.agg #[.int .i64 kd, .slice A4 (bitsOf (ansN s 0 kind ch)).length c4, .slice A5 (bitsOf (mainN s 0 kind ch)).length c5], .int .i64 0]) (by simp [results, Try.results33, go_sem, X0, X1, X2]) rfl ?_
        rw [HR.out]
        have hfar : ∀ p : Addr, w.heap.size + 2 ≤ p.block → ∀ (a b c : Value), (((w5.setCell ⟨w.heap.size + 1, 0, none⟩ a).setCell ⟨w.heap.size + 1, 1, none⟩ b).setCell ⟨w.heap.size + 1, 2, none⟩ c).cell? p = w5.cell? p := fun p hp a b c => by
          rw [World.cell?_setCell_far _ _ _ _ (by simp; omega), World.cell?_setCell_far _ _ _ _ (by simp; omega), World.cell?_setCell_far _ _ _ _ (by simp; omega)]
        refine ⟨A4, c4, A5, c5, rfl, own_mono (own_put (own_put (own_put (HA4.out.kept (grown_of_below HB45.out) (by cases A4 <;> simp [Value.ownBlock])) (by omega) _ _) (by omega) _ _) (by omega) _ _), own_mono (own_put (own_put (own_put HA5.out (by omega) _ _) (by omega) _ _) (by omega) _ _), ?_⟩
        have hbA : Below w.heap.size w w5 := HL.out.trans (HB5.out.mono (by omega))
        exact ((hbA.setCell (by first | omega | (simp; omega) | (simp; done)) _).setCell (by first | omega | (simp; omega) | (simp; done)) _).setCell (by first | omega | (simp; omega) | (simp; done)) _
      · simp only [Bool.not_eq_true] at hk
        rw [hk] at HK
        have HR : Hid (readR s ch kind = (0, [], [], 7)) := (by simp [readR, vs, hc, hk] : readR s ch kind = (0, [], [], 7))
        go_enter Try.func33, Try.ntmps33
        go_wp2_with fail
        refine ((HC _ (by (repeat (first | exact Below.refl _ _ | assumption | (refine Below.alloc ?_ (by first | omega | (simp; omega) | (simp; done)) _) | (refine Below.setCell ?_ (by first | omega | (simp; omega) | (simp; done)) _) | (refine Below.drew ?_) | (refine belowN ?_ _) | (refine Below.trans ?_ (Below.mono ‹Below _ _ _› (by first | omega | (simp; omega) | (simp; done)))))))).out).mono ?_
        rintro e w1 ⟨rfl, hb1⟩
        have hc1 := fun b o (h : b < w.heap.size + 2) => (bcell hb1).1 b o (by simp; omega)
        have hf1 := fun b o (h : b < w.heap.size + 2) => (bcell hb1).2 b o (by simp; omega)
        have hk1 := fun b (h : b < w.heap.size + 2) => hb1.block b (by simp; omega)
        have hz1 : w.heap.size + 2 ≤ w1.heap.size := (by have := hb1.size; simp at this; omega)
        go_wp2_with fail
        refine ((HI _ (by (repeat (first | exact Below.refl _ _ | assumption | (refine Below.alloc ?_ (by first | omega | (simp; omega) | (simp; done)) _) | (refine Below.setCell ?_ (by first | omega | (simp; omega) | (simp; done)) _) | (refine Below.drew ?_) | (refine belowN ?_ _) | (refine Below.trans ?_ (Below.mono ‹Below _ _ _› (by first | omega | (simp; omega) | (simp; done)))))))).out).mono ?_
        rintro e w2 ⟨rfl, hb2⟩
        have hc2 := fun b o (h : b < w.heap.size + 2) => ((bcell hb2).1 b o (by omega)).trans (hc1 b o h)
        have hf2 := fun b o (h : b < w.heap.size + 2) => ((bcell hb2).2 b o (by omega)).trans (hf1 b o h)
        have hk2 := fun b (h : b < w.heap.size + 2) => (hb2.block b (by omega)).trans (hk1 b h)
        have hz2 : w.heap.size + 2 ≤ w2.heap.size := (by have := hb2.size; omega)
        go_wp2_with fail
        refine ((HK _).out).mono ?_
        rintro e w3 ⟨rfl, hb3⟩
        have hc3 := fun b o (h : b < w.heap.size + 2) => ((bcell hb3).1 b o (by omega)).trans (hc2 b o h)
        have hf3 := fun b o (h : b < w.heap.size + 2) => ((bcell hb3).2 b o (by omega)).trans (hf2 b o h)
        have hk3 := fun b (h : b < w.heap.size + 2) => (hb3.block b (by omega)).trans (hk2 b h)
        have hz3 : w.heap.size + 2 ≤ w3.heap.size := (by have := hb3.size; omega)
        go_wp2
        refine bodyPost_ret (v := .tuple #[.agg #[.int .i64 0, .slice none 0 0, .slice none 0 0], .int .i64 7]) (by simp [results, Try.results33, go_sem, hc1, hc2, hc3]) rfl ?_
        rw [HR.out]
        exact retReadN_nil (by (repeat (first | exact Below.refl _ _ | assumption | (refine Below.alloc ?_ (by first | omega | (simp; omega) | (simp; done)) _) | (refine Below.setCell ?_ (by first | omega | (simp; omega) | (simp; done)) _) | (refine Below.drew ?_) | (refine belowN ?_ _) | (refine Below.trans ?_ (Below.mono ‹Below _ _ _› (by first | omega | (simp; omega) | (simp; done)))))))
    · simp only [Bool.not_eq_true] at hc
      have HR : Hid (readR s ch kind = (0, [], [], 4)) := (by simp [readR, vs, hc] : readR s ch kind = (0, [], [], 4))
      rw [hc] at HI
      go_enter Try.func33, Try.ntmps33
      go_wp2_with fail
      refine ((HC _ (by (repeat (first | exact Below.refl _ _ | assumption | (refine Below.alloc ?_ (by first | omega | (simp; omega) | (simp; done)) _) | (refine Below.setCell ?_ (by first | omega | (simp; omega) | (simp; done)) _) | (refine Below.drew ?_) | (refine belowN ?_ _) | (refine Below.trans ?_ (Below.mono ‹Below _ _ _› (by first | omega | (simp; omega) | (simp; done)))))))).out).mono ?_
      rintro e w1 ⟨rfl, hb1⟩
      have hc1 := fun b o (h : b < w.heap.size + 2) => (bcell hb1).1 b o (by simp; omega)
      have hf1 := fun b o (h : b < w.heap.size + 2) => (bcell hb1).2 b o (by simp; omega)
      have hk1 := fun b (h : b < w.heap.size + 2) => hb1.block b (by simp; omega)
      have hz1 : w.heap.size + 2 ≤ w1.heap.size := (by have := hb1.size; simp at this; omega)
      go_wp2_with fail
      refine ((HI _ (by (repeat (first | exact Below.refl _ _ | assumption | (refine Below.alloc ?_ (by first | omega | (simp; omega) | (simp; done)) _) | (refine Below.setCell ?_ (by first | omega | (simp; omega) | (simp; done)) _) | (refine Below.drew ?_) | (refine belowN ?_ _) | (refine Below.trans ?_ (Below.mono ‹Below _ _ _› (by first | omega | (simp; omega) | (simp; done)))))))).out).mono ?_
      rintro e w2 ⟨rfl, hb2⟩
      have hc2 := fun b o (h : b < w.heap.size + 2) => ((bcell hb2).1 b o (by omega)).trans (hc1 b o h)
      have hf2 := fun b o (h : b < w.heap.size + 2) => ((bcell hb2).2 b o (by omega)).trans (hf1 b o h)
      have hk2 := fun b (h : b < w.heap.size + 2) => (hb2.block b (by omega)).trans (hk1 b h)
      have hz2 : w.heap.size + 2 ≤ w2.heap.size := (by have := hb2.size; omega)
      go_wp2
      refine bodyPost_ret (v := .tuple #[.agg #[.int .i64 0, .slice none 0 0, .slice none 0 0], .int .i64 4]) (by simp [results, Try.results33, go_sem, hc1, hc2]) rfl ?_
      rw [HR.out]
      exact retReadN_nil (by (repeat (first | exact Below.refl _ _ | assumption | (refine Below.alloc ?_ (by first | omega | (simp; omega) | (simp; done)) _) | (refine Below.setCell ?_ (by first | omega | (simp; omega) | (simp; done)) _) | (refine Below.drew ?_) | (refine belowN ?_ _) | (refine Below.trans ?_ (Below.mono ‹Below _ _ _› (by first | omega | (simp; omega) | (simp; done)))))))
  · simp only [Bool.not_eq_true] at vs
    have HC := fun W (hW : Below w.heap.size w W) => Lib.hid (chk_any vs W ((hr.below hW).more hW.size))
    have HR : Hid (readR s ch kind = (0, [], [], 2)) := (by simp [readR, vs] : readR s ch kind = (0, [], [], 2))
    go_enter Try.func33, Try.ntmps33
    go_wp2_with fail
    refine ((HC _ (by (repeat (first | exact Below.refl _ _ | assumption | (refine Below.alloc ?_ (by first | omega | (simp; omega) | (simp; done)) _) | (refine Below.setCell ?_ (by first | omega | (simp; omega) | (simp; done)) _) | (refine Below.drew ?_) | (refine belowN ?_ _) | (refine Below.trans ?_ (Below.mono ‹Below _ _ _› (by first | omega | (simp; omega) | (simp; done)))))))).out).mono ?_
    rintro e w1 ⟨rfl, hb1⟩
    have hc1 := fun b o (h : b < w.heap.size + 2) => (bcell hb1).1 b o (by simp; omega)
    have hf1 := fun b o (h : b < w.heap.size + 2) => (bcell hb1).2 b o (by simp; omega)
    have hk1 := fun b (h : b < w.heap.size + 2) => hb1.block b (by simp; omega)
    have hz1 : w.heap.size + 2 ≤ w1.heap.size := (by have := hb1.size; simp at this; omega)
    go_wp2
    refine bodyPost_ret (v := .tuple #[.agg #[.int .i64 0, .slice none 0 0, .slice none 0 0], .int .i64 2]) (by simp [results, Try.results33, go_sem, hc1]) rfl ?_
    rw [HR.out]
    exact retReadN_nil (by (repeat (first | exact Below.refl _ _ | assumption | (refine Below.alloc ?_ (by first | omega | (simp; omega) | (simp; done)) _) | (refine Below.setCell ?_ (by first | omega | (simp; omega) | (simp; done)) _) | (refine Below.drew ?_) | (refine belowN ?_ _) | (refine Below.trans ?_ (Below.mono ‹Below _ _ _› (by first | omega | (simp; omega) | (simp; done)))))))
end Go.Proofs.Ytidlmbajpbbilaa

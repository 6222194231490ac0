/- School: how a chart is read; Differ. -/
import Derived.Test.YtidlmbajpbbilaaZ05Iter
namespace Go.Proofs.Ytidlmbajpbbilaa
open Go.RowKit
attribute [local go_sem] Oper.semAt_some

/-- the rules that speak and are not outranked, of a school without the rules O, for a chart -/
def mainOf (s : Sch) (O : Nat) (kind : Int) (ch : List Int) : Nat → Bool := mainS s (sp s (fun i => (bset (appl s ch) s.rules.length).testBit i && !O.testBit i) kind) s.rules.length
def mainN (s : Sch) (O : Nat) (kind : Int) (ch : List Int) : Nat := bset (mainOf s O kind ch) s.rules.length
def ansOf (s : Sch) (O : Nat) (kind : Int) (ch : List Int) : Nat → Bool := saidTo s (mainN s O kind ch) s.rules.length
def ansN (s : Sch) (O : Nat) (kind : Int) (ch : List Int) : Nat := bset (ansOf s O kind ch) 20
def applN (s : Sch) (ch : List Int) : Nat := bset (appl s ch) s.rules.length
theorem bset_lt32 (p : Nat → Bool) {n : Nat} (h : n ≤ 30) : bset p n < 4294967296 := Nat.lt_of_lt_of_le (bset_lt p n) (Nat.le_trans (pow_le_bset (by omega)) (by decide))

/-- the three steps of a reading, in every world that goes on from w -/
structure Asks (s : Sch) (O : Nat) (kind : Int) (ch : List Int) (A : Option Addr) (c : Nat) (w : World) : Prop where
  apply : ∀ W, Below w.heap.size w W → Calls Try.prog 57 #[rdv s s.rv (O : Int), .slice A s.places.toNat c] W fun e w' => e = .returned (.int .u32 ((applN s ch : Nat) : Int)) ∧ Below W.heap.size W w'
  speak : ∀ W, Below w.heap.size w W → Calls Try.prog 56 #[rdv s s.rv (O : Int), .int .u32 ((applN s ch : Nat) : Int), .int .i64 kind] W fun e w' => e = .returned (.int .u32 ((mainN s O kind ch : Nat) : Int)) ∧ Below W.heap.size W w'
  say : ∀ W, Below w.heap.size w W → Calls Try.prog 55 #[rdv s s.rv (O : Int), .int .u32 ((mainN s O kind ch : Nat) : Int)] W fun e w' => e = .returned (.int .u32 ((ansN s O kind ch : Nat) : Int)) ∧ Below W.heap.size W w'
theorem asks {s : Sch} {O : Nat} {kind : Int} {ch : List Int} {A : Option Addr} {c : Nat} {w : World} (hv : Valid s) (hr : s.reads w w.heap.size) (hO : O < 4294967296) (hk0 : 0 ≤ kind) (hk1 : kind < s.kinds)
    (hcl : ch.length = s.places.toNat) (hcb : ∀ x ∈ ch, 0 ≤ x ∧ x ≤ 63) (hA : Sl intCell 1 w w.heap.size A ch) : Asks s O kind ch A c w where
  apply := fun W hW => by
    have h := apply_any s s.rv rfl (O : Int) A c ch s.places.toNat W hcl.symm ((hr.below hW).more hW.size) hv.len hcb
      (fun r hr' t ht => by obtain ⟨i, hi, rfl⟩ := List.mem_iff_getElem.1 hr'; exact (hv.rule i hi).tests t ht) ((hA.below hW).more hW.size)
    rw [hcl] at h
    exact h
  speak := fun W hW => speak_any s s.rv rfl _ O (bset_lt32 _ hv.len) hO kind hk0 hk1 W hv ((hr.below hW).more hW.size)
  say := fun W hW => say_any s s.rv rfl (O : Int) _ (bset_lt32 _ hv.len) W ((hr.below hW).more hW.size) hv
/-- the same for a whole school, and a slice of length n -/
structure Asks0 (s : Sch) (kind : Int) (ch : List Int) (A : Option Addr) (n c : Nat) (w : World) : Prop where
  apply : ∀ W, Below w.heap.size w W → Calls Try.prog 57 #[rdv s s.rv 0, .slice A n c] W fun e w' => e = .returned (.int .u32 ((applN s ch : Nat) : Int)) ∧ Below W.heap.size W w'
  speak : ∀ W, Below w.heap.size w W → Calls Try.prog 56 #[rdv s s.rv 0, .int .u32 ((applN s ch : Nat) : Int), .int .i64 kind] W fun e w' => e = .returned (.int .u32 ((mainN s 0 kind ch : Nat) : Int)) ∧ Below W.heap.size W w'
  say : ∀ W, Below w.heap.size w W → Calls Try.prog 55 #[rdv s s.rv 0, .int .u32 ((mainN s 0 kind ch : Nat) : Int)] W fun e w' => e = .returned (.int .u32 ((ansN s 0 kind ch : Nat) : Int)) ∧ Below W.heap.size W w'
theorem asks0 {s : Sch} {kind : Int} {ch : List Int} {A : Option Addr} {n c : Nat} {w : World} (hv : Valid s) (hr : s.reads w w.heap.size) (hk0 : 0 ≤ kind) (hk1 : kind < s.kinds)
    (hcl : ch.length = n) (hn : n = s.places.toNat) (hcb : ∀ x ∈ ch, 0 ≤ x ∧ x ≤ 63) (hA : Sl intCell 1 w w.heap.size A ch) : Asks0 s kind ch A n c w := by
  subst hn
  have h := asks (c := c) hv hr (O := 0) (by omega) hk0 hk1 hcl hcb hA
  exact ⟨h.apply, h.speak, h.say⟩
theorem chartL_bd {s : Sch} (hv : Valid s) (k : Int) : ∀ x ∈ chartL s k, 0 ≤ x ∧ x ≤ 63 := fun x hx => by
  have := digits_bd hv.signs.1 _ k x hx
  have := hv.signs.2
  omega

def firstN (p : Nat → Bool) (N : Nat) : Int := firstIdx p (List.range N)
theorem firstN_at {p : Nat → Bool} {N k : Nat} (h : k < N) (hn : ∀ j, j < k → p j = false) (hp : p k = true) : firstN p N = (k : Int) :=
  firstIdx_at p (List.range N) k (by simpa using h) (fun j hj => by simpa using hn j hj) (by simpa using hp)
theorem firstN_none {p : Nat → Bool} {N : Nat} (hn : ∀ j, j < N → p j = false) : firstN p N = -1 :=
  firstIdx_none p (List.range N) (fun j hj => by simpa using hn j (by simpa using hj))
abbrev chartsC (s : Sch) : Nat := (chartsN s.signs s.places.toNat).toNat
/-- what Differ returns -/
def differR (a b : Sch) (kind : Int) : Int × Int :=
  if schB a && schB b then
    if a.places == b.places && a.signs == b.signs then
      if inB kind 0 (a.kinds - 1) && inB kind 0 (b.kinds - 1) then (firstN (fun (k : Nat) => ansN a 0 kind (chartL a k) != ansN b 0 kind (chartL a k)) (chartsC a), 0)
      else (0, 7)
    else (0, 9)
  else (0, 2)
def Ret2 (r : Int × Int) (w : World) (e : Ending) (w' : World) : Prop := e = .returned (.tuple #[.int .i64 r.1, .int .i64 r.2]) ∧ Below w.heap.size w w'
theorem chk_any {s : Sch} {v : Bool} (h : schB s = v) (w : World) (hr : s.reads w w.heap.size) : Calls Try.prog 36 #[scv s s.rv] w fun e w' => e = .returned (.int .i64 (if v then 0 else 2)) ∧ Below w.heap.size w w' :=
  (check_any s s.rv rfl w hr).mono fun e w' ⟨h1, h2⟩ => ⟨by rw [h1, h], h2⟩

set_option maxRecDepth 100000 in
set_option maxHeartbeats 4000000 in
theorem differ_any (a b : Sch) (kind : Int) (w : World) (ha : a.reads w w.heap.size) (hb : b.reads w w.heap.size) :
    Calls Try.prog 34 #[scv a a.rv, scv b b.rv, .int .i64 kind] w (Ret2 (differR a b kind) w) := by
  have HA := fun W (hW : Below w.heap.size w W) v (hv : schB a = v) => Lib.hid (chk_any hv W ((ha.below hW).more hW.size))
  have HB := fun W (hW : Below w.heap.size w W) v (hv : schB b = v) => Lib.hid (chk_any hv W ((hb.below hW).more hW.size))
  by_cases va : schB a = true
  · by_cases vb : schB b = true
    · have Va := valid_of ha.oks va
      have Vb := valid_of hb.oks vb
      have HKA := fun W => Lib.hid (isKind_any a a.rv kind W Va.kinds.1 Va.kinds.2)
      have HKB := fun W => Lib.hid (isKind_any b b.rv kind W Vb.kinds.1 Vb.kinds.2)
      by_cases hpl : a.places = b.places
      · by_cases hsg : a.signs = b.signs
        · have d1 : (a.places != b.places) = false := by simp [hpl]
          have d2 : (a.signs != b.signs) = false := by simp [hsg]
          have HPL := Lib.hid hpl; have HSG := Lib.hid hsg
          clear hpl hsg
          by_cases ka : inB kind 0 (a.kinds - 1) = true
          · by_cases kb : inB kind 0 (b.kinds - 1) = true
            · (refine calls_marks Try.func34 rfl ?_; simp only [Try.ntmps34, List.size_toArray, List.length_cons, List.length_nil, Nat.reduceAdd, Nat.reduceSub, Array.replicate_succ, Array.replicate_zero, List.push_toArray, List.append_toArray, List.nil_append, List.cons_append]; go_wp2_with fail; refine ((HA _ (by (repeat (first | exact Below.refl _ _ | assumption | (refine Below.alloc ?_ (by first | omega | (simp; omega) | (simp; done)) _) | (refine Below.setCell ?_ (by first | omega | (simp; omega) | (simp; done)) _) | (refine Below.drew ?_) | (refine belowN ?_ _) | (refine Below.trans ?_ (Below.mono ‹Below _ _ _› (by first | omega | (simp; omega) | (simp; done))))))) _ va).out).mono ?_; rintro e w1 ⟨rfl, hb1⟩; (have hk1 := fun b (h : b < w.heap.size + 5) => hb1.block b (by simp; omega); have hc1 := fun b o (h : b < w.heap.size + 5) => (bcell hb1).1 b o (by simp; omega); have hf1 := fun b o (h : b < w.heap.size + 5) => (bcell hb1).2 b o (by simp; omega); have hz1 : w.heap.size + 5 ≤ w1.heap.size := (by have := hb1.size; simp at this; omega)); go_wp2_with fail; refine ((HB _ (by (repeat (first | exact Below.refl _ _ | assumption | (refine Below.alloc ?_ (by first | omega | (simp; omega) | (simp; done)) _) | (refine Below.setCell ?_ (by first | omega | (simp; omega) | (simp; done)) _) | (refine Below.drew ?_) | (refine belowN ?_ _) | (refine Below.trans ?_ (Below.mono ‹Below _ _ _› (by first | omega | (simp; omega) | (simp; done))))))) _ vb).out).mono ?_; rintro e w2 ⟨rfl, hb2⟩; (have hk2 := fun b (h : b < w.heap.size + 5) => (hb2.block b (by omega)).trans (hk1 b h); have hc2 := fun b o (h : b < w.heap.size + 5) => ((bcell hb2).1 b o (by omega)).trans (hc1 b o h); have hf2 := fun b o (h : b < w.heap.size + 5) => ((bcell hb2).2 b o (by omega)).trans (hf1 b o h); have hz2 : w.heap.size + 5 ≤ w2.heap.size := (by have := hb2.size; omega)); go_wp2_with fail)
              refine ((HKA _).out).mono ?_
              rintro e w3 ⟨rfl, hb3⟩
              (have hk3 := fun b (h : b < w.heap.size + 5) => (hb3.block b (by omega)).trans (hk2 b h); have hc3 := fun b o (h : b < w.heap.size + 5) => ((bcell hb3).1 b o (by omega)).trans (hc2 b o h); have hf3 := fun b o (h : b < w.heap.size + 5) => ((bcell hb3).2 b o (by omega)).trans (hf2 b o h); have hz3 : w.heap.size + 5 ≤ w3.heap.size := (by have := hb3.size; omega))
              go_wp2_with fail
              refine ((HKB _).out).mono ?_
              rintro e w4 ⟨rfl, hb4⟩
              (have hk4 := fun b (h : b < w.heap.size + 5) => (hb4.block b (by omega)).trans (hk3 b h); have hc4 := fun b o (h : b < w.heap.size + 5) => ((bcell hb4).1 b o (by omega)).trans (hc3 b o h); have hf4 := fun b o (h : b < w.heap.size + 5) => ((bcell hb4).2 b o (by omega)).trans (hf3 b o h); have hz4 : w.heap.size + 5 ≤ w4.heap.size := (by have := hb4.size; omega))
              have l0 : w.heap.size < w4.heap.size := by omega
              have l1 : w.heap.size + 1 < w4.heap.size := by omega
              have l2 : w.heap.size < w4.heap.size + 1 := by omega
              have l3 : w.heap.size + 1 < w4.heap.size + 1 := by omega
              have kin := inB_iff.1 ka
              have kin2 := inB_iff.1 kb
              have bl0 := Lib.hid ( hk4 (w.heap.size + 2) (by omega))
              have bl1 := Lib.hid ( hk4 (w.heap.size + 3) (by omega))
              have bl2 := Lib.hid ( hk4 (w.heap.size + 4) (by omega))
              have hbel4 : Below w.heap.size w w4 := by (repeat (first | exact Below.refl _ _ | assumption | (refine Below.alloc ?_ (by first | omega | (simp; omega) | (simp; done)) _) | (refine Below.setCell ?_ (by first | omega | (simp; omega) | (simp; done)) _) | (refine Below.drew ?_) | (refine belowN ?_ _) | (refine Below.trans ?_ (Below.mono ‹Below _ _ _› (by first | omega | (simp; omega) | (simp; done))))))
              go_wp2
              go_region
              all_goals go_wp2
              · refine wp_world (fun W => Below w4.heap.size w4 W ∧ W.heap.size = w4.heap.size + 3 ∧ Blk W (w4.heap.size) #[.int .i64 a.places, .int .i64 a.signs, .int .i64 a.kinds, .int .i64 a.answers, a.rv, .int .u32 0] 108 ∧
                  Blk W (w4.heap.size + 1) #[.int .i64 b.places, .int .i64 b.signs, .int .i64 b.kinds, .int .i64 b.answers, b.rv, .int .u32 0] 108 ∧ Blk W (w4.heap.size + 2) #[.int .i64 a.places, .int .i64 a.signs, .int .i64 a.kinds, .int .i64 a.answers, a.rv] 24) ?_ ?_
                · exact ⟨by (repeat (first | exact Below.refl _ _ | assumption | (refine Below.alloc ?_ (by first | omega | (simp; omega) | (simp; done)) _) | (refine Below.setCell ?_ (by first | omega | (simp; omega) | (simp; done)) _) | (refine Below.drew ?_) | (refine belowN ?_ _) | (refine Below.trans ?_ (Below.mono ‹Below _ _ _› (by first | omega | (simp; omega) | (simp; done)))))), by simp, by first | exact ((Blk.at_ rfl).alloc _).alloc _ | exact (Blk.at_ (by simp)).alloc _, by first | exact ((Blk.at_ rfl).alloc _).alloc _ | exact (Blk.at_ (by simp)).alloc _, Blk.at_ (by simp)⟩
                rintro Wl ⟨gl, gs, gA, gB, gC⟩
                have hbl : Below w.heap.size w Wl := hbel4.trans (gl.mono (by omega))
                have bk : Blk Wl (w.heap.size + 2) #[.int .i64 kind] 3 := (gl.block _ (by omega)).trans (bl0.out.trans (((Blk.at_ (by simp)).alloc _).alloc _))
                have bn : Blk Wl (w.heap.size + 3) #[.int .i64 0] 3 := (gl.block _ (by omega)).trans (bl1.out.trans ((Blk.at_ (by simp)).alloc _))
                have be : Blk Wl (w.heap.size + 4) #[.int .i64 0] 31 := (gl.block _ (by omega)).trans (bl2.out.trans (Blk.at_ (by simp)))
                have HBT := valid_of hb.oks vb
                obtain ⟨ans, hans⟩ : ∃ f : Nat → Bool, f = fun (k : Nat) => ansN a 0 kind (chartL a k) != ansN b 0 kind (chartL a k) := ⟨_, rfl⟩
                have hres : differR a b kind = (firstN ans (chartsC a), 0) := by simp [differR, va, vb, HPL.out, HSG.out, ka, kb, hans]
                have HRES := Lib.hid hres
                have HANS := Lib.hid hans
                clear hres hans
                refine wp_rangeS (lb := #[.pointer (some ⟨w4.heap.size + 2, 0, none⟩)]) rfl ent_all1 (all1_iter a a.rv (w4.heap.size + 2) Va.small Va.charts) [(10, 0), (11, 1)]
                  (fun k W => Below Wl.heap.size Wl W ∧ Hid (∀ j, j < k → ans j = false))
                  (fun c W => c = .ret ∧ ∃ k, k < chartsC a ∧ Hid (∀ j, j < k → ans j = false) ∧ ans k = true ∧ Below w.heap.size w W ∧ Blk W (w.heap.size + 3) #[.int .i64 (k : Int)] 3 ∧ Blk W (w.heap.size + 4) #[.int .i64 0] 31)
                  (fun k => (Stab.low (Nat.le_refl _) _ (Nat.le_refl _)).and (Stab.pure _)) ?hIx ?hE ?hD ⟨Below.refl _ _, fun j h => by omega⟩ ?hps ?hassign ?hbody ?hdone ?hstop
                case hIx => exact fun c => (Stab.pure _).and (Stab.ex fun k => (Stab.pure _).and ((Stab.pure _).and ((Stab.pure _).and ((Stab.low (by omega) _ (by omega)).and ((Stab.blk _ _ _ _).and (Stab.blk _ _ _ _))))))
                case hE => exact fun k xs => Stab.ex fun A => Stab.ex fun c => (Stab.pure _).and (Stab.sl _ _)
                case hD => exact fun k W hi => ⟨by have := hi.1.size; omega, by rw [(gC.below hi.1 (by omega)).cell]; rfl, by rw [(gC.below hi.1 (by omega)).cell]; rfl, by rw [(gC.below hi.1 (by omega)).cell]; rfl, by rw [(gC.below hi.1 (by omega)).cell]; rfl, by rw [(gC.below hi.1 (by omega)).cell]; rfl⟩
                case hps => rintro k W xs ⟨A, c, rfl, _⟩; rfl
                case hassign =>
                  rintro l k xs W K ⟨A, c, rfl, _⟩ hK
                  rw [round2] at hK
                  rw [fold2]
                  simp only [List.setIfInBounds_toArray, List.set_cons_succ, List.set_cons_zero] at hK ⊢
                  gi_wp2
                  exact hK
                case hbody =>
                  rintro l k xs W hk ⟨hbl2, hno⟩ ⟨A, c, rfl, hsl⟩ hl1 hl2
                  rw [round2]
                  simp only [List.setIfInBounds_toArray, List.set_cons_succ, List.set_cons_zero]
                  have hbw : Below w.heap.size w W := hbl.trans (hbl2.mono (by omega))
                  have hln : (chartL a k).length = a.places.toNat := digits_len _ _ _
                  have HQ := Lib.hid (asks0 (c := c) Va ((ha.below hbw).more hbw.size) kin.1 (by omega) hln rfl (chartL_bd Va k) hsl)
                  have HQ2 := Lib.hid (asks0 (c := c) Vb ((hb.below hbw).more hbw.size) kin.1 (by omega) hln (by rw [HPL.out]) (chartL_bd Va k) hsl)
                  have hsz := hbl2.size
                  have cA := (gA.below hbl2 (by omega)).cell
                  have cB := (gB.below hbl2 (by omega)).cell
                  have cK := (bk.below hbl2 (by omega)).cell 0
                  have bN := bn.below hbl2 (by omega)
                  have bE := be.below hbl2 (by omega)
                  have A0 := cA 0; have A1 := cA 1; have A2 := cA 2; have A3 := cA 3; have A4 := cA 4; have A5 := cA 5
                  have B0 := cB 0; have B1 := cB 1; have B2 := cB 2; have B3 := cB 3; have B4 := cB 4; have B5 := cB 5
                  simp at A0 A1 A2 A3 A4 A5 B0 B1 B2 B3 B4 B5 cK
                  have BN := Lib.hid bN; have BE := Lib.hid bE; have HBW := Lib.hid hbw; have HBL2 := Lib.hid hbl2
                  have hak : Hid (ans k = (ansN a 0 kind (chartL a k) != ansN b 0 kind (chartL a k))) := by show _ = _; rw [HANS.out]
                  clear cA cB bN bE hsl
                  by_cases hd : ansN a 0 kind (chartL a k) = ansN b 0 kind (chartL a k)
                  · have hq : (((ansN a 0 kind (chartL a k) : Nat) : Int) != ((ansN b 0 kind (chartL a k) : Nat) : Int)) = false := by simp [hd]
                    have hno2 : Hid (ans k = false) := by show _ = _; rw [hak.out]; simp [hd]
                    clear hd
                    gi_wp2
                    (refine wpIn_region_ext (by kernel_rfl) (by kernel_rfl) (by kernel_rfl) ?_; (repeat (go_big_quiet_step((first | (go_at_call 57; first | with_reducible exact Calls.ext_of (HQ.out.apply _ (Grow.h _)) | with_reducible exact Calls.ext_of (HQ2.out.apply _ (Grow.h _))) | (go_at_call 56; first | with_reducible exact Calls.ext_of (HQ.out.speak _ (Grow.h _)) | with_reducible exact Calls.ext_of (HQ2.out.speak _ (Grow.h _))) | (go_at_call 55; first | with_reducible exact Calls.ext_of (HQ.out.say _ (Grow.h _)) | with_reducible exact Calls.ext_of (HQ2.out.say _ (Grow.h _))))))); with_reducible refine wpQuiet_nil ?_; intro w1 hw1; have hb1 := ext_below hw1; clear hw1)
                    gi_wp2
                    exact ⟨keepsFrom_below hb1, HBL2.out.trans (hb1.mono (by omega)), upto_succ hno hno2.out⟩
                  · have hq : (((ansN a 0 kind (chartL a k) : Nat) : Int) != ((ansN b 0 kind (chartL a k) : Nat) : Int)) = true := by simp; omega
                    have hyes : Hid (ans k = true) := by show _ = _; rw [hak.out]; simp [hd]
                    clear hd
                    gi_wp2
                    (refine wpIn_region_ext (by kernel_rfl) (by kernel_rfl) (by kernel_rfl) ?_; (repeat (go_big_quiet_step((first | (go_at_call 57; first | with_reducible exact Calls.ext_of (HQ.out.apply _ (Grow.h _)) | with_reducible exact Calls.ext_of (HQ2.out.apply _ (Grow.h _))) | (go_at_call 56; first | with_reducible exact Calls.ext_of (HQ.out.speak _ (Grow.h _)) | with_reducible exact Calls.ext_of (HQ2.out.speak _ (Grow.h _))) | (go_at_call 55; first | with_reducible exact Calls.ext_of (HQ.out.say _ (Grow.h _)) | with_reducible exact Calls.ext_of (HQ2.out.say _ (Grow.h _))))))); with_reducible refine wpQuiet_nil ?_; intro w1 hw1; have hb1 := ext_below hw1; clear hw1)
                    have n1 := BN.out.below hb1 (by omega)
                    have e1 := BE.out.below hb1 (by omega)
                    have cN := n1.cell 0
                    have fN := n1.free 0
                    have cE := e1.cell 0
                    have fE := e1.free 0
                    simp at cN cE
                    have N1 := Lib.hid n1; have E1 := Lib.hid e1
                    clear n1 e1
                    gi_wp2
                    exact ⟨(keepsFrom_below hb1).trans (((KeepsOthers.setCell _ _ _).from _).trans ((KeepsOthers.setCell _ _ _).from _)), rfl, k, hk, hno, hyes.out, ((HBW.out.trans (hb1.mono HBW.out.size)).setCell (by first | omega | (simp; omega) | (simp; done)) _).setCell (by first | omega | (simp; omega) | (simp; done)) _,
                      (N1.out.set 0 _).far _ (by simp) _, (E1.out.far _ (by simp) _).set 0 _⟩
                case hdone =>
                  rintro D W ⟨hbl2, hno⟩ hD hK
                  have hsz := hbl2.size
                  have n1 := bn.below hbl2 (by omega)
                  have e1 := be.below hbl2 (by omega)
                  have cN := n1.cell 0
                  have fN := n1.free 0
                  have cE := e1.cell 0
                  have fE := e1.free 0
                  simp at cN cE
                  have N1 := Lib.hid n1; have E1 := Lib.hid e1; have HK := Lib.hid hK
                  clear n1 e1 hK
                  go_wp2
                  have hK2 := (((KeepsOthers.setCell W ⟨w.heap.size + 3, 0, none⟩ (.int .i64 (-1))).trans (KeepsOthers.setCell _ ⟨w.heap.size + 4, 0, none⟩ (.int .i64 0))).same D _ HK.out rfl)
                  have n2 := ((N1.out.set 0 (.int .i64 (-1))).far ⟨w.heap.size + 4, 0, none⟩ (by simp) (.int .i64 0)).putObj (o' := .deferred none) hK2 rfl
                  have e2 := ((E1.out.far ⟨w.heap.size + 3, 0, none⟩ (by simp) (.int .i64 (-1))).set 0 (.int .i64 0)).putObj (o' := .deferred none) hK2 rfl
                  have cN2 := n2.cell 0
                  have cE2 := e2.cell 0
                  simp at cN2 cE2
                  refine marks_ret1 (v := .tuple #[.int .i64 (-1), .int .i64 0]) rfl hK2 (by simp [results, Try.results34, go_sem, cN2, cE2]) ?_
                  exact ⟨by rw [HRES.out, firstN_none hno.out], below_putObj (((hbl.trans (hbl2.mono (by omega))).setCell (by first | omega | (simp; omega) | (simp; done)) _).setCell (by first | omega | (simp; omega) | (simp; done)) _) (by have := hbl.size; omega) hK2 _⟩
                case hstop =>
                  rintro D c W ⟨rfl, k, hk, hno, hyes, hbw, n1, e1⟩ hD hK
                  refine wp_ret ?_
                  have cN2 := (n1.putObj (o' := .deferred none) hK rfl).cell 0
                  have cE2 := (e1.putObj (o' := .deferred none) hK rfl).cell 0
                  simp at cN2 cE2
                  refine marks_ret1 (v := .tuple #[.int .i64 (k : Int), .int .i64 0]) rfl hK (by simp [results, Try.results34, go_sem, cN2, cE2]) ?_
                  exact ⟨by rw [HRES.out, firstN_at hk hno.out hyes], below_putObj hbw (by have := hbl.size; omega) hK _⟩
              · refine wp_world (fun W => Below w4.heap.size w4 W ∧ W.heap.size = w4.heap.size + 3 ∧ Blk W (w4.heap.size + 1) #[.int .i64 a.places, .int .i64 a.signs, .int .i64 a.kinds, .int .i64 a.answers, a.rv, .int .u32 0] 108 ∧
                  Blk W (w4.heap.size) #[.int .i64 b.places, .int .i64 b.signs, .int .i64 b.kinds, .int .i64 b.answers, b.rv, .int .u32 0] 108 ∧ Blk W (w4.heap.size + 2) #[.int .i64 a.places, .int .i64 a.signs, .int .i64 a.kinds, .int .i64 a.answers, a.rv] 24) ?_ ?_
                · exact ⟨by (repeat (first | exact Below.refl _ _ | assumption | (refine Below.alloc ?_ (by first | omega | (simp; omega) | (simp; done)) _) | (refine Below.setCell ?_ (by first | omega | (simp; omega) | (simp; done)) _) | (refine Below.drew ?_) | (refine belowN ?_ _) | (refine Below.trans ?_ (Below.mono ‹Below _ _ _› (by first | omega | (simp; omega) | (simp; done)))))), by simp, by first | exact ((Blk.at_ rfl).alloc _).alloc _ | exact (Blk.at_ (by simp)).alloc _, by first | exact ((Blk.at_ rfl).alloc _).alloc _ | exact (Blk.at_ (by simp)).alloc _, Blk.at_ (by simp)⟩
                rintro Wl ⟨gl, gs, gA, gB, gC⟩
                have hbl : Below w.heap.size w Wl := hbel4.trans (gl.mono (by omega))
                have bk : Blk Wl (w.heap.size + 2) #[.int .i64 kind] 3 := (gl.block _ (by omega)).trans (bl0.out.trans (((Blk.at_ (by simp)).alloc _).alloc _))
                have bn : Blk Wl (w.heap.size + 3) #[.int .i64 0] 3 := (gl.block _ (by omega)).trans (bl1.out.trans ((Blk.at_ (by simp)).alloc _))
                have be : Blk Wl (w.heap.size + 4) #[.int .i64 0] 31 := (gl.block _ (by omega)).trans (bl2.out.trans (Blk.at_ (by simp)))
                have HBT := valid_of hb.oks vb
                obtain ⟨ans, hans⟩ : ∃ f : Nat → Bool, f = fun (k : Nat) => ansN a 0 kind (chartL a k) != ansN b 0 kind (chartL a k) := ⟨_, rfl⟩
                have hres : differR a b kind = (firstN ans (chartsC a), 0) := by simp [differR, va, vb, HPL.out, HSG.out, ka, kb, hans]
                have HRES := Lib.hid hres
                have HANS := Lib.hid hans
                clear hres hans
                refine wp_rangeS (lb := #[.pointer (some ⟨w4.heap.size + 2, 0, none⟩)]) rfl ent_all1 (all1_iter a a.rv (w4.heap.size + 2) Va.small Va.charts) [(10, 0), (11, 1)]
                  (fun k W => Below Wl.heap.size Wl W ∧ Hid (∀ j, j < k → ans j = false))
                  (fun c W => c = .ret ∧ ∃ k, k < chartsC a ∧ Hid (∀ j, j < k → ans j = false) ∧ ans k = true ∧ Below w.heap.size w W ∧ Blk W (w.heap.size + 3) #[.int .i64 (k : Int)] 3 ∧ Blk W (w.heap.size + 4) #[.int .i64 0] 31)
                  (fun k => (Stab.low (Nat.le_refl _) _ (Nat.le_refl _)).and (Stab.pure _)) ?hIx ?hE ?hD ⟨Below.refl _ _, fun j h => by omega⟩ ?hps ?hassign ?hbody ?hdone ?hstop
                case hIx => exact fun c => (Stab.pure _).and (Stab.ex fun k => (Stab.pure _).and ((Stab.pure _).and ((Stab.pure _).and ((Stab.low (by omega) _ (by omega)).and ((Stab.blk _ _ _ _).and (Stab.blk _ _ _ _))))))
                case hE => exact fun k xs => Stab.ex fun A => Stab.ex fun c => (Stab.pure _).and (Stab.sl _ _)
                case hD => exact fun k W hi => ⟨by have := hi.1.size; omega, by rw [(gC.below hi.1 (by omega)).cell]; rfl, by rw [(gC.below hi.1 (by omega)).cell]; rfl, by rw [(gC.below hi.1 (by omega)).cell]; rfl, by rw [(gC.below hi.1 (by omega)).cell]; rfl, by rw [(gC.below hi.1 (by omega)).cell]; rfl⟩
                case hps => rintro k W xs ⟨A, c, rfl, _⟩; rfl
                case hassign =>
                  rintro l k xs W K ⟨A, c, rfl, _⟩ hK
                  rw [round2] at hK
                  rw [fold2]
                  simp only [List.setIfInBounds_toArray, List.set_cons_succ, List.set_cons_zero] at hK ⊢
                  gi_wp2
                  exact hK
                case hbody =>
                  rintro l k xs W hk ⟨hbl2, hno⟩ ⟨A, c, rfl, hsl⟩ hl1 hl2
                  rw [round2]
                  simp only [List.setIfInBounds_toArray, List.set_cons_succ, List.set_cons_zero]
                  have hbw : Below w.heap.size w W := hbl.trans (hbl2.mono (by omega))
                  have hln : (chartL a k).length = a.places.toNat := digits_len _ _ _
                  have HQ := Lib.hid (asks0 (c := c) Va ((ha.below hbw).more hbw.size) kin.1 (by omega) hln rfl (chartL_bd Va k) hsl)
                  have HQ2 := Lib.hid (asks0 (c := c) Vb ((hb.below hbw).more hbw.size) kin.1 (by omega) hln (by rw [HPL.out]) (chartL_bd Va k) hsl)
                  have hsz := hbl2.size
                  have cA := (gA.below hbl2 (by omega)).cell
                  have cB := (gB.below hbl2 (by omega)).cell
                  have cK := (bk.below hbl2 (by omega)).cell 0
                  have bN := bn.below hbl2 (by omega)
                  have bE := be.below hbl2 (by omega)
                  have A0 := cA 0; have A1 := cA 1; have A2 := cA 2; have A3 := cA 3; have A4 := cA 4; have A5 := cA 5
                  have B0 := cB 0; have B1 := cB 1; have B2 := cB 2; have B3 := cB 3; have B4 := cB 4; have B5 := cB 5
                  simp at A0 A1 A2 A3 A4 A5 B0 B1 B2 B3 B4 B5 cK
                  have BN := Lib.hid bN; have BE := Lib.hid bE; have HBW := Lib.hid hbw; have HBL2 := Lib.hid hbl2
                  have hak : Hid (ans k = (ansN a 0 kind (chartL a k) != ansN b 0 kind (chartL a k))) := by show _ = _; rw [HANS.out]
                  clear cA cB bN bE hsl
                  by_cases hd : ansN a 0 kind (chartL a k) = ansN b 0 kind (chartL a k)
                  · have hq : (((ansN a 0 kind (chartL a k) : Nat) : Int) != ((ansN b 0 kind (chartL a k) : Nat) : Int)) = false := by simp [hd]
                    have hno2 : Hid (ans k = false) := by show _ = _; rw [hak.out]; simp [hd]
                    clear hd
                    gi_wp2
                    (refine wpIn_region_ext (by kernel_rfl) (by kernel_rfl) (by kernel_rfl) ?_; (repeat (go_big_quiet_step((first | (go_at_call 57; first | with_reducible exact Calls.ext_of (HQ.out.apply _ (Grow.h _)) | with_reducible exact Calls.ext_of (HQ2.out.apply _ (Grow.h _))) | (go_at_call 56; first | with_reducible exact Calls.ext_of (HQ.out.speak _ (Grow.h _)) | with_reducible exact Calls.ext_of (HQ2.out.speak _ (Grow.h _))) | (go_at_call 55; first | with_reducible exact Calls.ext_of (HQ.out.say _ (Grow.h _)) | with_reducible exact Calls.ext_of (HQ2.out.say _ (Grow.h _))))))); with_reducible refine wpQuiet_nil ?_; intro w1 hw1; have hb1 := ext_below hw1; clear hw1)
                    gi_wp2
                    exact ⟨keepsFrom_below hb1, HBL2.out.trans (hb1.mono (by omega)), upto_succ hno hno2.out⟩
                  · have hq : (((ansN a 0 kind (chartL a k) : Nat) : Int) != ((ansN b 0 kind (chartL a k) : Nat) : Int)) = true := by simp; omega
                    have hyes : Hid (ans k = true) := by show _ = _; rw [hak.out]; simp [hd]
                    clear hd
                    gi_wp2
                    (refine wpIn_region_ext (by kernel_rfl) (by kernel_rfl) (by kernel_rfl) ?_; (repeat (go_big_quiet_step((first | (go_at_call 57; first | with_reducible exact Calls.ext_of (HQ.out.apply _ (Grow.h _)) | with_reducible exact Calls.ext_of (HQ2.out.apply _ (Grow.h _))) | (go_at_call 56; first | with_reducible exact Calls.ext_of (HQ.out.speak _ (Grow.h _)) | with_reducible exact Calls.ext_of (HQ2.out.speak _ (Grow.h _))) | (go_at_call 55; first | with_reducible exact Calls.ext_of (HQ.out.say _ (Grow.h _)) | with_reducible exact Calls.ext_of (HQ2.out.say _ (Grow.h _))))))); with_reducible refine wpQuiet_nil ?_; intro w1 hw1; have hb1 := ext_below hw1; clear hw1)
                    have n1 := BN.out.below hb1 (by omega)
                    have e1 := BE.out.below hb1 (by omega)
                    have cN := n1.cell 0
                    have fN := n1.free 0
                    have cE := e1.cell 0
                    have fE := e1.free 0
                    simp at cN cE
                    have N1 := Lib.hid n1; have E1 := Lib.hid e1
                    clear n1 e1
                    gi_wp2
                    exact ⟨(keepsFrom_below hb1).trans (((KeepsOthers.setCell _ _ _).from _).trans ((KeepsOthers.setCell _ _ _).from _)), rfl, k, hk, hno, hyes.out, ((HBW.out.trans (hb1.mono HBW.out.size)).setCell (by first | omega | (simp; omega) | (simp; done)) _).setCell (by first | omega | (simp; omega) | (simp; done)) _,
                      (N1.out.set 0 _).far _ (by simp) _, (E1.out.far _ (by simp) _).set 0 _⟩
                case hdone =>
                  rintro D W ⟨hbl2, hno⟩ hD hK
                  have hsz := hbl2.size
                  have n1 := bn.below hbl2 (by omega)
                  have e1 := be.below hbl2 (by omega)
                  have cN := n1.cell 0
                  have fN := n1.free 0
                  have cE := e1.cell 0
                  have fE := e1.free 0
                  simp at cN cE
                  have N1 := Lib.hid n1; have E1 := Lib.hid e1; have HK := Lib.hid hK
                  clear n1 e1 hK
                  go_wp2
                  have hK2 := (((KeepsOthers.setCell W ⟨w.heap.size + 3, 0, none⟩ (.int .i64 (-1))).trans (KeepsOthers.setCell _ ⟨w.heap.size + 4, 0, none⟩ (.int .i64 0))).same D _ HK.out rfl)
                  have n2 := ((N1.out.set 0 (.int .i64 (-1))).far ⟨w.heap.size + 4, 0, none⟩ (by simp) (.int .i64 0)).putObj (o' := .deferred none) hK2 rfl
                  have e2 := ((E1.out.far ⟨w.heap.size + 3, 0, none⟩ (by simp) (.int .i64 (-1))).set 0 (.int .i64 0)).putObj (o' := .deferred none) hK2 rfl
                  have cN2 := n2.cell 0
                  have cE2 := e2.cell 0
                  simp at cN2 cE2
                  refine marks_ret1 (v := .tuple #[.int .i64 (-1), .int .i64 0]) rfl hK2 (by simp [results, Try.results34, go_sem, cN2, cE2]) ?_
                  exact ⟨by rw [HRES.out, firstN_none hno.out], below_putObj (((hbl.trans (hbl2.mono (by omega))).setCell (by first | omega | (simp; omega) | (simp; done)) _).setCell (by first | omega | (simp; omega) | (simp; done)) _) (by have := hbl.size; omega) hK2 _⟩
                case hstop =>
                  rintro D c W ⟨rfl, k, hk, hno, hyes, hbw, n1, e1⟩ hD hK
                  refine wp_ret ?_
                  have cN2 := (n1.putObj (o' := .deferred none) hK rfl).cell 0
                  have cE2 := (e1.putObj (o' := .deferred none) hK rfl).cell 0
                  simp at cN2 cE2
                  refine marks_ret1 (v := .tuple #[.int .i64 (k : Int), .int .i64 0]) rfl hK (by simp [results, Try.results34, go_sem, cN2, cE2]) ?_
                  exact ⟨by rw [HRES.out, firstN_at hk hno.out hyes], below_putObj hbw (by have := hbl.size; omega) hK _⟩
            · simp only [Bool.not_eq_true] at kb
              (go_enter Try.func34, Try.ntmps34; go_wp2_with fail; refine ((HA _ (by (repeat (first | exact Below.refl _ _ | assumption | (refine Below.alloc ?_ (by first | omega | (simp; omega) | (simp; done)) _) | (refine Below.setCell ?_ (by first | omega | (simp; omega) | (simp; done)) _) | (refine Below.drew ?_) | (refine belowN ?_ _) | (refine Below.trans ?_ (Below.mono ‹Below _ _ _› (by first | omega | (simp; omega) | (simp; done))))))) _ va).out).mono ?_; rintro e w1 ⟨rfl, hb1⟩; (have hk1 := fun b (h : b < w.heap.size + 5) => hb1.block b (by simp; omega); have hc1 := fun b o (h : b < w.heap.size + 5) => (bcell hb1).1 b o (by simp; omega); have hf1 := fun b o (h : b < w.heap.size + 5) => (bcell hb1).2 b o (by simp; omega); have hz1 : w.heap.size + 5 ≤ w1.heap.size := (by have := hb1.size; simp at this; omega)); go_wp2_with fail; refine ((HB _ (by (repeat (first | exact Below.refl _ _ | assumption | (refine Below.alloc ?_ (by first | omega | (simp; omega) | (simp; done)) _) | (refine Below.setCell ?_ (by first | omega | (simp; omega) | (simp; done)) _) | (refine Below.drew ?_) | (refine belowN ?_ _) | (refine Below.trans ?_ (Below.mono ‹Below _ _ _› (by first | omega | (simp; omega) | (simp; done))))))) _ vb).out).mono ?_; rintro e w2 ⟨rfl, hb2⟩; (have hk2 := fun b (h : b < w.heap.size + 5) => (hb2.block b (by omega)).trans (hk1 b h); have hc2 := fun b o (h : b < w.heap.size + 5) => ((bcell hb2).1 b o (by omega)).trans (hc1 b o h); have hf2 := fun b o (h : b < w.heap.size + 5) => ((bcell hb2).2 b o (by omega)).trans (hf1 b o h); have hz2 : w.heap.size + 5 ≤ w2.heap.size := (by have := hb2.size; omega)); go_wp2_with fail)
              refine ((HKA _).out).mono ?_
              rintro e w3 ⟨rfl, hb3⟩
              (have hk3 := fun b (h : b < w.heap.size + 5) => (hb3.block b (by omega)).trans (hk2 b h); have hc3 := fun b o (h : b < w.heap.size + 5) => ((bcell hb3).1 b o (by omega)).trans (hc2 b o h); have hf3 := fun b o (h : b < w.heap.size + 5) => ((bcell hb3).2 b o (by omega)).trans (hf2 b o h); have hz3 : w.heap.size + 5 ≤ w3.heap.size := (by have := hb3.size; omega))
              go_wp2_with fail
              refine ((HKB _).out).mono ?_
              rintro e w4 ⟨rfl, hb4⟩
              (have hk4 := fun b (h : b < w.heap.size + 5) => (hb4.block b (by omega)).trans (hk3 b h); have hc4 := fun b o (h : b < w.heap.size + 5) => ((bcell hb4).1 b o (by omega)).trans (hc3 b o h); have hf4 := fun b o (h : b < w.heap.size + 5) => ((bcell hb4).2 b o (by omega)).trans (hf3 b o h); have hz4 : w.heap.size + 5 ≤ w4.heap.size := (by have := hb4.size; omega))
              go_wp2
              refine bodyPost_ret (v := .tuple #[.int .i64 0, .int .i64 7]) (by simp [results, Try.results34, go_sem, hc4]) rfl ?_
              exact ⟨by simp [differR, va, vb, HPL.out, HSG.out, kb], by (repeat (first | exact Below.refl _ _ | assumption | (refine Below.alloc ?_ (by first | omega | (simp; omega) | (simp; done)) _) | (refine Below.setCell ?_ (by first | omega | (simp; omega) | (simp; done)) _) | (refine Below.drew ?_) | (refine belowN ?_ _) | (refine Below.trans ?_ (Below.mono ‹Below _ _ _› (by first | omega | (simp; omega) | (simp; done))))))⟩
          · simp only [Bool.not_eq_true] at ka
            (go_enter Try.func34, Try.ntmps34; go_wp2_with fail; refine ((HA _ (by (repeat (first | exact Below.refl _ _ | assumption | (refine Below.alloc ?_ (by first | omega | (simp; omega) | (simp; done)) _) | (refine Below.setCell ?_ (by first | omega | (simp; omega) | (simp; done)) _) | (refine Below.drew ?_) | (refine belowN ?_ _) | (refine Below.trans ?_ (Below.mono ‹Below _ _ _› (by first | omega | (simp; omega) | (simp; done))))))) _ va).out).mono ?_; rintro e w1 ⟨rfl, hb1⟩; (have hk1 := fun b (h : b < w.heap.size + 5) => hb1.block b (by simp; omega); have hc1 := fun b o (h : b < w.heap.size + 5) => (bcell hb1).1 b o (by simp; omega); have hf1 := fun b o (h : b < w.heap.size + 5) => (bcell hb1).2 b o (by simp; omega); have hz1 : w.heap.size + 5 ≤ w1.heap.size := (by have := hb1.size; simp at this; omega)); go_wp2_with fail; refine ((HB _ (by (repeat (first | exact Below.refl _ _ | assumption | (refine Below.alloc ?_ (by first | omega | (simp; omega) | (simp; done)) _) | (refine Below.setCell ?_ (by first | omega | (simp; omega) | (simp; done)) _) | (refine Below.drew ?_) | (refine belowN ?_ _) | (refine Below.trans ?_ (Below.mono ‹Below _ _ _› (by first | omega | (simp; omega) | (simp; done))))))) _ vb).out).mono ?_; rintro e w2 ⟨rfl, hb2⟩; (have hk2 := fun b (h : b < w.heap.size + 5) => (hb2.block b (by omega)).trans (hk1 b h); have hc2 := fun b o (h : b < w.heap.size + 5) => ((bcell hb2).1 b o (by omega)).trans (hc1 b o h); have hf2 := fun b o (h : b < w.heap.size + 5) => ((bcell hb2).2 b o (by omega)).trans (hf1 b o h); have hz2 : w.heap.size + 5 ≤ w2.heap.size := (by have := hb2.size; omega)); go_wp2_with fail)
            refine ((HKA _).out).mono ?_
            rintro e w3 ⟨rfl, hb3⟩
            (have hk3 := fun b (h : b < w.heap.size + 5) => (hb3.block b (by omega)).trans (hk2 b h); have hc3 := fun b o (h : b < w.heap.size + 5) => ((bcell hb3).1 b o (by omega)).trans (hc2 b o h); have hf3 := fun b o (h : b < w.heap.size + 5) => ((bcell hb3).2 b o (by omega)).trans (hf2 b o h); have hz3 : w.heap.size + 5 ≤ w3.heap.size := (by have := hb3.size; omega))
            go_wp2
            refine bodyPost_ret (v := .tuple #[.int .i64 0, .int .i64 7]) (by simp [results, Try.results34, go_sem, hc3]) rfl ?_
            exact ⟨by simp [differR, va, vb, HPL.out, HSG.out, ka], by (repeat (first | exact Below.refl _ _ | assumption | (refine Below.alloc ?_ (by first | omega | (simp; omega) | (simp; done)) _) | (refine Below.setCell ?_ (by first | omega | (simp; omega) | (simp; done)) _) | (refine Below.drew ?_) | (refine belowN ?_ _) | (refine Below.trans ?_ (Below.mono ‹Below _ _ _› (by first | omega | (simp; omega) | (simp; done))))))⟩
        · have d1 : (a.places != b.places) = false := by simp [hpl]
          have d2 : (a.signs != b.signs) = true := by simp [hsg]
          have HPL := Lib.hid hpl; have HSG := Lib.hid hsg
          clear hpl hsg
          (go_enter Try.func34, Try.ntmps34; go_wp2_with fail; refine ((HA _ (by (repeat (first | exact Below.refl _ _ | assumption | (refine Below.alloc ?_ (by first | omega | (simp; omega) | (simp; done)) _) | (refine Below.setCell ?_ (by first | omega | (simp; omega) | (simp; done)) _) | (refine Below.drew ?_) | (refine belowN ?_ _) | (refine Below.trans ?_ (Below.mono ‹Below _ _ _› (by first | omega | (simp; omega) | (simp; done))))))) _ va).out).mono ?_; rintro e w1 ⟨rfl, hb1⟩; (have hk1 := fun b (h : b < w.heap.size + 5) => hb1.block b (by simp; omega); have hc1 := fun b o (h : b < w.heap.size + 5) => (bcell hb1).1 b o (by simp; omega); have hf1 := fun b o (h : b < w.heap.size + 5) => (bcell hb1).2 b o (by simp; omega); have hz1 : w.heap.size + 5 ≤ w1.heap.size := (by have := hb1.size; simp at this; omega)); go_wp2_with fail; refine ((HB _ (by (repeat (first | exact Below.refl _ _ | assumption | (refine Below.alloc ?_ (by first | omega | (simp; omega) | (simp; done)) _) | (refine Below.setCell ?_ (by first | omega | (simp; omega) | (simp; done)) _) | (refine Below.drew ?_) | (refine belowN ?_ _) | (refine Below.trans ?_ (Below.mono ‹Below _ _ _› (by first | omega | (simp; omega) | (simp; done))))))) _ vb).out).mono ?_; rintro e w2 ⟨rfl, hb2⟩; (have hk2 := fun b (h : b < w.heap.size + 5) => (hb2.block b (by omega)).trans (hk1 b h); have hc2 := fun b o (h : b < w.heap.size + 5) => ((bcell hb2).1 b o (by omega)).trans (hc1 b o h); have hf2 := fun b o (h : b < w.heap.size + 5) => ((bcell hb2).2 b o (by omega)).trans (hf1 b o h); have hz2 : w.heap.size + 5 ≤ w2.heap.size := (by have := hb2.size; omega)); go_wp2_with fail)
          refine bodyPost_ret (v := .tuple #[.int .i64 0, .int .i64 9]) (by simp [results, Try.results34, go_sem, hc2]) rfl ?_
          exact ⟨by have := HSG.out; simp [differR, va, vb, HPL.out, this], by (repeat (first | exact Below.refl _ _ | assumption | (refine Below.alloc ?_ (by first | omega | (simp; omega) | (simp; done)) _) | (refine Below.setCell ?_ (by first | omega | (simp; omega) | (simp; done)) _) | (refine Below.drew ?_) | (refine belowN ?_ _) | (refine Below.trans ?_ (Below.mono ‹Below _ _ _› (by first | omega | (simp; omega) | (simp; done))))))⟩
      · have d1 : (a.places != b.places) = true := by simp [hpl]
        have HPL := Lib.hid hpl
        clear hpl
        (go_enter Try.func34, Try.ntmps34; go_wp2_with fail; refine ((HA _ (by (repeat (first | exact Below.refl _ _ | assumption | (refine Below.alloc ?_ (by first | omega | (simp; omega) | (simp; done)) _) | (refine Below.setCell ?_ (by first | omega | (simp; omega) | (simp; done)) _) | (refine Below.drew ?_) | (refine belowN ?_ _) | (refine Below.trans ?_ (Below.mono ‹Below _ _ _› (by first | omega | (simp; omega) | (simp; done))))))) _ va).out).mono ?_; rintro e w1 ⟨rfl, hb1⟩; (have hk1 := fun b (h : b < w.heap.size + 5) => hb1.block b (by simp; omega); have hc1 := fun b o (h : b < w.heap.size + 5) => (bcell hb1).1 b o (by simp; omega); have hf1 := fun b o (h : b < w.heap.size + 5) => (bcell hb1).2 b o (by simp; omega); have hz1 : w.heap.size + 5 ≤ w1.heap.size := (by have := hb1.size; simp at this; omega)); go_wp2_with fail; refine ((HB _ (by (repeat (first | exact Below.refl _ _ | assumption | (refine Below.alloc ?_ (by first | omega | (simp; omega) | (simp; done)) _) | (refine Below.setCell ?_ (by first | omega | (simp; omega) | (simp; done)) _) | (refine Below.drew ?_) | (refine belowN ?_ _) | (refine Below.trans ?_ (Below.mono ‹Below _ _ _› (by first | omega | (simp; omega) | (simp; done))))))) _ vb).out).mono ?_; rintro e w2 ⟨rfl, hb2⟩; (have hk2 := fun b (h : b < w.heap.size + 5) => (hb2.block b (by omega)).trans (hk1 b h); have hc2 := fun b o (h : b < w.heap.size + 5) => ((bcell hb2).1 b o (by omega)).trans (hc1 b o h); have hf2 := fun b o (h : b < w.heap.size + 5) => ((bcell hb2).2 b o (by omega)).trans (hf1 b o h); have hz2 : w.heap.size + 5 ≤ w2.heap.size := (by have := hb2.size; omega)); go_wp2_with fail)
        refine bodyPost_ret (v := .tuple #[.int .i64 0, .int .i64 9]) (by simp [results, Try.results34, go_sem, hc2]) rfl ?_
        exact ⟨by have := HPL.out; simp [differR, va, vb, this], by (repeat (first | exact Below.refl _ _ | assumption | (refine Below.alloc ?_ (by first | omega | (simp; omega) | (simp; done)) _) | (refine Below.setCell ?_ (by first | omega | (simp; omega) | (simp; done)) _) | (refine Below.drew ?_) | (refine belowN ?_ _) | (refine Below.trans ?_ (Below.mono ‹Below _ _ _› (by first | omega | (simp; omega) | (simp; done))))))⟩
    · simp only [Bool.not_eq_true] at vb
      (go_enter Try.func34, Try.ntmps34; go_wp2_with fail; refine ((HA _ (by (repeat (first | exact Below.refl _ _ | assumption | (refine Below.alloc ?_ (by first | omega | (simp; omega) | (simp; done)) _) | (refine Below.setCell ?_ (by first | omega | (simp; omega) | (simp; done)) _) | (refine Below.drew ?_) | (refine belowN ?_ _) | (refine Below.trans ?_ (Below.mono ‹Below _ _ _› (by first | omega | (simp; omega) | (simp; done))))))) _ va).out).mono ?_; rintro e w1 ⟨rfl, hb1⟩; (have hk1 := fun b (h : b < w.heap.size + 5) => hb1.block b (by simp; omega); have hc1 := fun b o (h : b < w.heap.size + 5) => (bcell hb1).1 b o (by simp; omega); have hf1 := fun b o (h : b < w.heap.size + 5) => (bcell hb1).2 b o (by simp; omega); have hz1 : w.heap.size + 5 ≤ w1.heap.size := (by have := hb1.size; simp at this; omega)); go_wp2_with fail; refine ((HB _ (by (repeat (first | exact Below.refl _ _ | assumption | (refine Below.alloc ?_ (by first | omega | (simp; omega) | (simp; done)) _) | (refine Below.setCell ?_ (by first | omega | (simp; omega) | (simp; done)) _) | (refine Below.drew ?_) | (refine belowN ?_ _) | (refine Below.trans ?_ (Below.mono ‹Below _ _ _› (by first | omega | (simp; omega) | (simp; done))))))) _ vb).out).mono ?_; rintro e w2 ⟨rfl, hb2⟩; (have hk2 := fun b (h : b < w.heap.size + 5) => (hb2.block b (by omega)).trans (hk1 b h); have hc2 := fun b o (h : b < w.heap.size + 5) => ((bcell hb2).1 b o (by omega)).trans (hc1 b o h); have hf2 := fun b o (h : b < w.heap.size + 5) => ((bcell hb2).2 b o (by omega)).trans (hf1 b o h); have hz2 : w.heap.size + 5 ≤ w2.heap.size := (by have := hb2.size; omega)); go_wp2_with fail)
      refine bodyPost_ret (v := .tuple #[.int .i64 0, .int .i64 2]) (by simp [results, Try.results34, go_sem, hc2]) rfl ?_
      exact ⟨by simp [differR, vb], by (repeat (first | exact Below.refl _ _ | assumption | (refine Below.alloc ?_ (by first | omega | (simp; omega) | (simp; done)) _) | (refine Below.setCell ?_ (by first | omega | (simp; omega) | (simp; done)) _) | (refine Below.drew ?_) | (refine belowN ?_ _) | (refine Below.trans ?_ (Below.mono ‹Below _ _ _› (by first | omega | (simp; omega) | (simp; done))))))⟩
  · simp only [Bool.not_eq_true] at va
    go_enter Try.func34, Try.ntmps34
    go_wp2_with fail
    refine ((HA _ (by (repeat (first | exact Below.refl _ _ | assumption | (refine Below.alloc ?_ (by first | omega | (simp; omega) | (simp; done)) _) | (refine Below.setCell ?_ (by first | omega | (simp; omega) | (simp; done)) _) | (refine Below.drew ?_) | (refine belowN ?_ _) | (refine Below.trans ?_ (Below.mono ‹Below _ _ _› (by first | omega | (simp; omega) | (simp; done))))))) _ va).out).mono ?_
    rintro e w1 ⟨rfl, hb1⟩
    (have hk1 := fun b (h : b < w.heap.size + 5) => hb1.block b (by simp; omega); have hc1 := fun b o (h : b < w.heap.size + 5) => (bcell hb1).1 b o (by simp; omega); have hf1 := fun b o (h : b < w.heap.size + 5) => (bcell hb1).2 b o (by simp; omega); have hz1 : w.heap.size + 5 ≤ w1.heap.size := (by have := hb1.size; simp at this; omega))
    go_wp2
    refine bodyPost_ret (v := .tuple #[.int .i64 0, .int .i64 2]) (by simp [results, Try.results34, go_sem, hc1]) rfl ?_
    exact ⟨by simp [differR, va], by (repeat (first | exact Below.refl _ _ | assumption | (refine Below.alloc ?_ (by first | omega | (simp; omega) | (simp; done)) _) | (refine Below.setCell ?_ (by first | omega | (simp; omega) | (simp; done)) _) | (refine Below.drew ?_) | (refine belowN ?_ _) | (refine Below.trans ?_ (Below.mono ‹Below _ _ _› (by first | omega | (simp; omega) | (simp; done))))))⟩
end Go.Proofs.Ytidlmbajpbbilaa

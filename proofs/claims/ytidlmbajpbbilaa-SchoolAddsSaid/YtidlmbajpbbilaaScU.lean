/- School: same. -/
import Derived.Test.YtidlmbajpbbilaaScT
namespace Go.Proofs.Ytidlmbajpbbilaa
open Go.RowKit
attribute [local go_sem] Oper.semAt_some

theorem grown_of_below {W W' : World} (hb : Below W.heap.size W W') : W.grownBy W' none := ⟨hb.os, hb.tape, hb.output, hb.size, fun k hk _ => hb.block k hk⟩
theorem or_pow_lt {O i : Nat} (hO : O < 4294967296) (hi : i < 32) : O ||| 2 ^ i < 4294967296 := Nat.or_lt_two_pow (n := 32) hO (Nat.pow_lt_pow_right (by omega) hi)
def SameR (s : Sch) (O' : Nat) (S : Nat → Nat → Prop) (w : World) (e : Ending) (w' : World) : Prop :=
  (∃ b : Bool, e = .returned (.bool b) ∧ (b = true ↔ ∀ h k, S h k → ansH s O' h (k : Int) = ansH s 0 h (k : Int))) ∧ Below w.heap.size w w'
set_option maxRecDepth 100000 in
set_option maxHeartbeats 4000000 in
theorem same_any (s : Sch) (V : Valid s) (p O hm rm n : Nat) (D : DW) (S : Nat → Nat → Prop) (i : Nat) (w : World) (hP : PrAt w p s O hm rm) (hR : w.ownsMap Try.prog 149 (plainElem Try.prog 112) rm n D) (hM : RM s D S)
    (hS : ∀ h k, S h k → (k : Int) < s.kinds) (hr : s.reads w w.heap.size) (hO : O < 4294967296) (hi : i < 32) :
    Calls Try.prog 79 #[.pointer (some ⟨p, 0, none⟩), .int .i64 (i : Int)] w (SameR s (O ||| 2 ^ i) S w) := by
  have hsh := pow_mod32 i (by omega)
  have hpi : (2 : Nat) ^ i ≤ 2147483648 := pow_le_bset (by omega)
  have hor : bits BinOp.or IntKind.u32 (O : Int) ((2 : Int) ^ i) = ((O ||| 2 ^ i : Nat) : Int) := by have := u32or O (2 ^ i) hO (by omega); simpa using this
  have hlt := or_pow_lt hO hi
  obtain ⟨O', hO'⟩ : ∃ x, x = O ||| 2 ^ i := ⟨_, rfl⟩
  rw [← hO'] at hor hlt ⊢
  clear hO'
  have hpl := hP.lt
  have pc := hP.cell
  have p0 := pc 0; have p1 := pc 1; have p2 := pc 2; have p3 := pc 3; have p4 := pc 4; have p5 := pc 5; have p6 := pc 6; have p7 := pc 7
  simp at p0 p1 p2 p3 p4 p5 p6 p7
  have HR0 := Lib.hid hR
  clear pc hR hP
  have hi0 : (0 : Int) ≤ (i : Int) := by omega
  go_enter Try.func79, Try.ntmps79
  go_wp2
  go_region
  go_wp2_with (first | (at_range; refine wpList_range_own _ rfl _ 133 rfl 149 112 keyPoint Try.underlying133 (plainElem Try.prog 112) rm n D rfl ((HR0.out.alloc _).drew) ?_; intro w0 hrg0 hg0 hs0))
  go_frame
  simp only [World.size_drew, World.size_alloc] at hrg0 hs0 ⊢
  have hb0 : Below w.heap.size w w0 := ((Below.refl _ w).alloc (Nat.le_refl _) _).drew.grown hg0 (by simp) (fun k e => by cases e)
  have hf0 : Blk w0 w.heap.size #[.int .i64 s.places, .int .i64 s.signs, .int .i64 s.kinds, .int .i64 s.answers, s.rv, .int .u32 (O' : Int)] 108 := (hg0.block _ (by simp) (by simp)).trans (Blk.new w _ _)
  have HRR := Lib.hid hr
  have HRG := Lib.hid hrg0
  have HF0 := Lib.hid hf0
  obtain ⟨rr, hrr⟩ : ∃ r, r = w.heap.size + 1 := ⟨_, rfl⟩
  rw [← hrr] at HRG ⊢
  have hrl : w.heap.size < rr := by omega
  clear hg0 hrg0 hf0 hr hrr p0 p1 p2 p3 p4 p5 p6 p7 hor hsh hpi
  go_loopw [4] (fun v wr => v = .bool false ∧ ∃ left cnt, Hid (wr.ranges Try.prog 149 (plainElem Try.prog 112) rm rr n D left cnt) ∧ Below w.heap.size w wr ∧ w.heap.size < wr.heap.size ∧ Hid (Blk wr w.heap.size #[.int .i64 s.places, .int .i64 s.signs, .int .i64 s.kinds, .int .i64 s.answers, s.rv, .int .u32 (O' : Int)] 108) ∧
    Hid (∀ kl, left kl = true → Go.Maps.has D kl = true) ∧ Hid (∀ h k : Nat, S h k → left (pkey h k) = false → ansH s O' h (k : Int) = ansH s 0 h (k : Int))) (fun _ wr => wr.rangeLeft rm rr)
  case atStart => exact ⟨rfl, _, _, HRG, hb0, by omega, HF0, fun kl h => h, fun h k hs he => by have := (hM.has (pkey h k)).2 ⟨h, k, hs, rfl⟩; rw [this] at he; cases he⟩
  case round =>
    obtain ⟨rfl, left, cnt, hrg, hb, hlt2, hf, hlh, hok⟩ := hrel
    go_wp2_with (first | (at_next; refine wpList_next_ranges _ rfl _ rfl 149 keyPoint (plainElem Try.prog 112) (fun x : Int × Int => ptv x.1 x.2) (Value.int .u32) (fun key kl hkey => by obtain ⟨a, k, h1, _⟩ := pkey_inv hkey; exact ⟨(a, k), h1⟩) (fun v y hv => by obtain ⟨c, h1, _⟩ := plainElem_int_inv Try.underlying112 hv; exact ⟨c, h1⟩) rm rr n D left cnt rfl hrg.out ?_ ?_))
    · intro hc0 hl0
      have hall : ∀ h k : Nat, S h k → ansH s O' h (k : Int) = ansH s 0 h (k : Int) := fun h k hs => hok.out h k hs (hl0 _)
      have HALL := Lib.hid hall
      clear hall hl0 hc0
      go_wp2
      go_ret
      exact ⟨⟨true, rfl, fun _ => HALL.out, fun _ => rfl⟩, hb⟩
    · intro x1 x2 c kl yd yp w1 cnt1 hkey hlk hv hat hrg1 hcl hg1 hs1 hen
      obtain ⟨h, k, hs, rfl⟩ := (hM.has kl).1 (hlh.out kl hlk)
      have hwf := hM.wf h k hs
      have hx := keyPoint.inj hkey (pkey_of (wfu hwf.1) (wfi hwf.2))
      simp only [Value.agg.injEq, Array.mk.injEq, List.cons.injEq, Value.int.injEq, true_and, and_true] at hx
      obtain ⟨rfl, rfl⟩ := hx
      obtain ⟨c', hc', hy', _⟩ := plainElem_int_inv Try.underlying112 hv
      cases hc'; cases hy'
      have hcv := (hat .nil).symm.trans (hM.val h k hs .nil)
      simp only [DataW.lit.injEq, Lit.int.injEq, true_and] at hcv
      subst hcv
      have hkk : (k : Int) < s.kinds := hS h k hs
      have hbw1 : Below w.heap.size w w1 := hb.grown hg1 (by omega) (fun j e => by cases e; omega)
      have hf1 : Blk w1 w.heap.size #[.int .i64 s.places, .int .i64 s.signs, .int .i64 s.kinds, .int .i64 s.answers, s.rv, .int .u32 (O' : Int)] 108 := (hg1.block _ hlt2 (by intro e; cases e; omega)).trans hf.out
      have fc := hf1.cell
      have f0 := fc 0; have f1 := fc 1; have f2 := fc 2; have f3 := fc 3; have f4 := fc 4; have f5 := fc 5
      simp at f0 f1 f2 f3 f4 f5
      have hw1 : w.heap.size < w1.heap.size := by omega
      obtain ⟨L, hL⟩ : ∃ L, L = bset (mainS s (sp s (fun i => h.testBit i && !O'.testBit i) (k : Int)) s.rules.length) s.rules.length := ⟨_, rfl⟩
      have hLl : L < 4294967296 := hL ▸ bset_lt32 _ V.len
      have HSP := fun W (hW : Below w.heap.size w W) => Lib.hid (hL ▸ speak_any s s.rv rfl h O' hwf.1 hlt (k : Int) (by omega) hkk W V ((HRR.out.below hW).more hW.size))
      have HSY := fun W (hW : Below w.heap.size w W) => Lib.hid (say_any s s.rv rfl (O' : Int) L hLl W ((HRR.out.below hW).more hW.size) V)
      obtain ⟨X, hX⟩ : ∃ X, X = bset (saidTo s L s.rules.length) 20 := ⟨_, rfl⟩
      have HX : Hid (ansH s O' h (k : Int) = X) := by show _ = _; rw [hX, hL]; rfl
      rw [← hX] at HSY
      obtain ⟨Y, hY⟩ : ∃ Y, Y = ansH s 0 h (k : Int) := ⟨_, rfl⟩
      have HY := Lib.hid hY
      rw [← hY] at hen ⊢
      have HRG1 := Lib.hid hrg1; have HRGo := Lib.hid hrg
      have HBW1 := Lib.hid hbw1
      have HHS := Lib.hid hs
      have hsz1 : wr.heap.size ≤ w1.heap.size := by omega
      have HF1 := Lib.hid hf1
      clear hX hL hY hs1 hf1 fc hkey hv hat hrg1 hrg hf hb hbw1 hg1 hs
      by_cases hxy : X = Y
      · have hq : ((X : Int) != (Y : Int)) = false := by simp [hxy]
        have HXY := Lib.hid hxy
        clear hxy
        go_wp2
        (refine wp_region_ext (by kernel_rfl) (by kernel_rfl) ?_; (repeat (go_big_quiet_step((first | (go_at_call 56; with_reducible exact Calls.ext_of (HSP _ (((HBW1.out.alloc (by omega) _).trans ((Grow.h _).mono (by simp; omega))))).out) | (go_at_call 55; with_reducible exact Calls.ext_of (HSY _ (((HBW1.out.alloc (by omega) _).trans ((Grow.h _).mono (by simp; omega))))).out))))); with_reducible refine wpQuiet_nil ?_; intro w2 hw2; have hb1 := ext_below hw2; clear hw2)
        have HB2 := Lib.hid ((HBW1.out.alloc (by omega) _).trans (hb1.mono (by simp; omega)))
        have HF2 := Lib.hid ((HF1.out.alloc (.cells #[.int .u32 (h : Int), .int .i64 (k : Int)] 149)).below hb1 (by simp; omega))
        go_wp2
        go_roundw
        case rel =>
          refine ⟨rfl, _, _, ((HRG1.out.alloc _).kept (grown_of_below hb1) (by simp) (by simp)), HB2.out, by have := hb1.size; simp at this; omega, ?_, ?_, ?_⟩
          · exact HF2.out
          · intro kl hkl
            simp only [Bool.and_eq_true] at hkl
            exact hlh.out kl hkl.1
          · intro h' k' hs' hle
            simp only [Bool.and_eq_false_iff, Bool.not_eq_false'] at hle
            rcases hle with hle | hle
            · exact hok.out h' k' hs' hle
            · obtain ⟨rfl, rfl⟩ := pkey_nat (hM.wf h' k' hs') hwf (WideAt.sameKey_eq hle)
              rw [HX.out, HXY.out, HY.out]
        case measure =>
          rw [((HRG1.out.alloc _).kept (grown_of_below hb1) (by simp) (by simp)).left_eq, HRGo.out.out.left_eq]
          exact hcl
      · have hq : ((X : Int) != (Y : Int)) = true := by simp only [bne_iff_ne, ne_eq]; omega
        have HXY := Lib.hid hxy
        clear hxy
        go_wp2
        (refine wp_region_ext (by kernel_rfl) (by kernel_rfl) ?_; (repeat (go_big_quiet_step((first | (go_at_call 56; with_reducible exact Calls.ext_of (HSP _ (((HBW1.out.alloc (by omega) _).trans ((Grow.h _).mono (by simp; omega))))).out) | (go_at_call 55; with_reducible exact Calls.ext_of (HSY _ (((HBW1.out.alloc (by omega) _).trans ((Grow.h _).mono (by simp; omega))))).out))))); with_reducible refine wpQuiet_nil ?_; intro w2 hw2; have hb1 := ext_below hw2; clear hw2)
        have HB2 := Lib.hid ((HBW1.out.alloc (by omega) _).trans (hb1.mono (by simp; omega)))
        have HF2 := Lib.hid ((HF1.out.alloc (.cells #[.int .u32 (h : Int), .int .i64 (k : Int)] 149)).below hb1 (by simp; omega))
        go_wp2
        go_ret
        refine ⟨⟨false, rfl, fun e => (by cases e), fun e => ?_⟩, HB2.out⟩
        have := e h k HHS.out
        rw [HX.out, ← HY.out] at this
        exact absurd this HXY.out
end Go.Proofs.Ytidlmbajpbbilaa

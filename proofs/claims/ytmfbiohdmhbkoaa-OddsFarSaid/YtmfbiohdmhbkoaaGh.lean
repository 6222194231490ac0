/- odds: each of a pair calls its argument for all pairs of outcomes. -/
import Derived.Test.YtmfbiohdmhbkoaaGg
namespace Go.Proofs.Ytmfbiohdmhbkoaa
open Go.RowKit

/-- from block z on, what was there has not turned -/
def Upper (z : Nat) (W W' : World) : Prop := ∀ k, z ≤ k → k < W.heap.size → W'.heap[k]? = W.heap[k]?
theorem Upper.blk {z b : Nat} {W W' : World} {cs : Array Value} {t : TypeId} (h : Upper z W W') (hb : Blk W b cs t) (hz : z ≤ b) : Blk W' b cs t := (h b hz (Blk.lt hb)).trans hb
set_option maxRecDepth 100000 in
set_option maxHeartbeats 4000000 in
theorem each_any (g : Nat) (cap : Array Value) (A A2 : Option Addr) (c c2 : Nat) (a b : List Int) (w : World) (z : Nat) (J : Nat → Nat → World → Prop) (hz : z ≤ w.heap.size)
    (hg : Ent g) (hm : a.length ≤ 1000000) (hm2 : b.length ≤ 1000000) (hr : Sl intCell 1 w z A a) (hr2 : Sl intCell 1 w z A2 b)
    (hp : ∀ x ∈ a, ∀ y ∈ b, 0 ≤ x * y ∧ x * y ≤ 1000000000000000)
    (hJ : ∀ i j W W', J i j W → Below W.heap.size W W' → J i j W') (hN : ∀ i W, i < a.length → J i b.length W → J (i + 1) 0 W) (h0 : J 0 0 w)
    (hf : ∀ i j (hi : i < a.length) (hj : j < b.length) W, Below z w W → J i j W → w.heap.size ≤ W.heap.size → Calls Try.prog g (#[.int .i64 i, .int .i64 j, .int .i64 (a[i] * b[j])] ++ cap) W fun e W' => (∃ v, e = .returned v) ∧ J i (j + 1) W' ∧ Below z W W' ∧ Upper w.heap.size W W') :
    Calls Try.prog 72 #[.agg #[.slice A a.length c, .slice A2 b.length c2], .func (.func g) #[] cap] w fun e w' => (∃ v, e = .returned v) ∧ J a.length 0 w' ∧ Below z w w' := by
  unfold Ent at hg
  have HF := Lib.hid hf; have HJ := Lib.hid hJ; have HN := Lib.hid hN; have HR := Lib.hid hr; have HR2 := Lib.hid hr2; have HP := Lib.hid hp
  have HJ0 := Lib.hid (hJ 0 0 w _ h0 ((Below.refl _ _).alloc (Nat.le_refl _) (.cells #[.slice A a.length c, .slice A2 b.length c2] 89)))
  clear hf hJ hN hr hr2 hp h0
  go_enter Try.func72, Try.ntmps72
  go_wp2
  refine gen_w (fun W => Hid (J 0 0 W) ∧ Below z w W ∧ Blk W w.heap.size #[.slice A a.length c, .slice A2 b.length c2] 89) ⟨HJ0, (Below.refl _ _).alloc hz _, Blk.at_ rfl⟩ ?_
  rintro w0 ⟨HJ0, hb0, g0⟩
  go_loopw [11] (fun i wr => ∃ k : Nat, k ≤ a.length ∧ i = .int .i64 k ∧ Hid (J k 0 wr) ∧ Below z w wr ∧ Blk wr w.heap.size #[.slice A a.length c, .slice A2 b.length c2] 89) (fun i _ => a.length - (intOf i).toNat)
  case atStart => exact ⟨0, by omega, rfl, HJ0, hb0, g0⟩
  case round =>
    obtain ⟨k, hk, rfl, HI, hb, gr⟩ := hrel
    have c1 := gr.cell 1
    simp at c1
    by_cases hlt : k < a.length
    · obtain ⟨bb, o, rfl, hbb, hc⟩ := (HR.out.below hb).int_at hlt
      have HX := Lib.hid (fun y (hy : y ∈ b) => HP.out a[k] (List.getElem_mem hlt) y hy)
      have HFX := Lib.hid (HF.out k)
      obtain ⟨x, hx⟩ : ∃ x, x = a[k] := ⟨_, rfl⟩
      have HXE := Lib.hid hx
      rw [← hx] at hc HX
      clear hx
      go_wp2
      rename World => wo
      go_loopw [19] (fun i wr => ∃ j : Nat, j ≤ b.length ∧ i = .int .i64 j ∧ Hid (J k j wr) ∧ Below z w wr ∧ Blk wr w.heap.size #[.slice (some ⟨bb, o, none⟩) a.length c, .slice A2 b.length c2] 89) (fun i _ => b.length - (intOf i).toNat)
      case atStart => exact ⟨0, by omega, rfl, HI, hb, gr⟩
      case round =>
        obtain ⟨j, hj, rfl, HI2, hb2, gr2⟩ := hrel
        by_cases hlt2 : j < b.length
        · obtain ⟨b3, o3, rfl, hb3, hc3⟩ := (HR2.out.below hb2).int_at hlt2
          obtain ⟨y0, y1⟩ := HX.out b[j] (List.getElem_mem hlt2)
          have HC := Lib.hid (HFX.out j hlt hlt2 wr hb2 HI2.out (by have := gr2.lt; omega))
          obtain ⟨y, hy⟩ : ∃ y, y = b[j] := ⟨_, rfl⟩
          rw [← HXE.out, ← hy] at HC
          rw [← hy] at hc3 y0 y1
          clear hy
          go_wp2_with fail
          refine HC.out.mono ?_
          rintro _ w1 ⟨⟨v, rfl⟩, hj1, hbz, hup⟩
          have HJ1 := Lib.hid hj1
          have gr3 := hup.blk gr2 (Nat.le_refl _)
          clear hj1
          go_wp2
          go_roundw
          case rel => exact ⟨j + 1, by omega, by go_num, HJ1, hb2.trans hbz, gr3⟩
          case measure => simp [intOf]; omega
        · obtain rfl : j = b.length := by omega
          have HJ1 := Lib.hid (HN.out k wr hlt HI2.out)
          go_wp2
          go_roundw
          case rel => exact ⟨k + 1, by omega, by go_num, HJ1, hb2, gr2⟩
          case measure => simp [intOf]; omega
    · obtain rfl : k = a.length := by omega
      go_wp2
      go_end0
      exact ⟨⟨_, rfl⟩, HI.out, hb⟩
end Go.Proofs.Ytmfbiohdmhbkoaa

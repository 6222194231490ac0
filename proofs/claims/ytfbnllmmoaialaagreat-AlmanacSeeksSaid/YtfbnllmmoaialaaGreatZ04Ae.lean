/- almanac: begins. (The region's arms were printed by a program.) -/
import Derived.Test.YtfbnllmmoaialaaGreatZ01Ac
import Derived.Test.YtfbnllmmoaialaaGreatPlan
import Derived.Deep.RegionHeld
import Derived.Deep.DeepCutAuto
namespace Go.Proofs.YtfbnllmmoaialaaGreat
open Go.RowKit

theorem Blk.drew {W : World} {b t : Nat} {cs : Array Value} (h : Blk W b cs t) : Blk W.drew b cs t := h
theorem blk_stays {t : TypeId} {cs : Array Value} (f : Nat → Value) : Stays (fun x W => ∃ b, x = f b ∧ Blk W b cs t) := fun _ _ _ ⟨b, h1, h2⟩ hb => ⟨b, h1, h2.below hb h2.lt⟩
theorem lay {P G : Prop} (h : P) (k : P → G) : G := k h
theorem mulI_bd {y : Int} {l : List Int} (hl : l.length ≤ 3) (hn : ∀ x ∈ l, 0 ≤ x ∧ x ≤ 100000) (y0 : 0 ≤ y) : 0 ≤ mulI y l ∧ mulI y l ≤ y := by
  unfold mulI
  by_cases h : l.any (fun x => x == 0) = true
  · rw [if_pos h]; omega
  · rw [if_neg h]
    have hp : ∀ x ∈ l, 1 ≤ x ∧ x ≤ 100000 := fun x hx => by
      rw [Bool.not_eq_true, List.any_eq_false] at h
      have h1 := h x hx
      have h2 := hn x hx
      simp at h1
      omega
    have h1 := (lcL_bd l.length (l := l) (Nat.le_refl _) (by rw [List.take_length]; exact hp)).1
    rw [List.take_length] at h1
    obtain ⟨L, hL⟩ : ∃ L, L = lcL l := ⟨_, rfl⟩
    rw [← hL] at h1 ⊢
    refine ⟨Int.ediv_nonneg (by omega) (by omega), ?_⟩
    have h2 : y + L - 1 < (y + 1) * L := by
      rw [Int.add_mul, Int.one_mul]
      have := Int.mul_le_mul_of_nonneg_left h1 y0
      omega
    have := Int.ediv_lt_of_lt_mul (show 0 < L by omega) h2
    omega
/-- the first day of a year by the sun -/
def begI (r : Sol) (y : Int) : Int := 365 * y + mulI y [r.e] - mulI y [r.e, r.b] + mulI y [r.e, r.b, r.u]
theorem sl_blk {W : World} {b : Nat} {l : List Int} (h : Blk W b (l.map (Value.int .i64)).toArray 3) : Sl intCell 1 W W.heap.size (some ⟨b, 0, none⟩) l := Arr.sl h
structure SolOk (r : Sol) : Prop where
  e : 0 ≤ r.e ∧ r.e ≤ 100000
  b : 0 ≤ r.b ∧ r.b ≤ 100000
  u : 0 ≤ r.u ∧ r.u ≤ 100000
theorem solB_iff {r : Sol} : solB r = true ↔ SolOk r := by
  simp only [solB, Bool.and_eq_true, inB_iff]
  exact ⟨fun ⟨⟨a, b⟩, c⟩ => ⟨a, b, c⟩, fun ⟨a, b, c⟩ => ⟨⟨a, b⟩, c⟩⟩
set_option maxRecDepth 100000 in
set_option maxHeartbeats 8000000 in
theorem begins_any (e b u y : Int) (w : World) (ok : SolOk ⟨e, b, u⟩) (y0 : 0 ≤ y) (y1 : y ≤ 10000) : Calls Tryz.prog 65 #[.agg #[.int .i64 e, .int .i64 b, .int .i64 u], .int .i64 y] w fun en w' => en = .returned (.int .i64 (begI ⟨e, b, u⟩ y)) ∧ Below w.heap.size w w' := by
  obtain ⟨o1, o2, o3⟩ := ok
  simp only at o1 o2 o3
  have n1 : ∀ x ∈ [e], 0 ≤ x ∧ x ≤ 100000 := fun x hx => by simp at hx; omega
  have n2 : ∀ x ∈ [e, b], 0 ≤ x ∧ x ≤ 100000 := fun x hx => by simp at hx; omega
  have n3 : ∀ x ∈ [e, b, u], 0 ≤ x ∧ x ≤ 100000 := fun x hx => by simp at hx; omega
  have HM1 : Hid (∀ (W : World) (k : Nat), Blk W k #[.int .i64 e] 3 → Calls Tryz.prog 95 #[.int .i64 y, .slice (some ⟨k, 0, none⟩) 1 1] W fun en w' => en = .returned (.int .i64 (mulI y [e])) ∧ Below W.heap.size W w') := (fun W k h => multiples_any (some ⟨k, 0, none⟩) 1 [e] y W (by simp) n1 y0 (by omega) (sl_blk h) : ∀ (W : World) (k : Nat), _)
  have HM2 : Hid (∀ (W : World) (k : Nat), Blk W k #[.int .i64 e, .int .i64 b] 3 → Calls Tryz.prog 95 #[.int .i64 y, .slice (some ⟨k, 0, none⟩) 2 2] W fun en w' => en = .returned (.int .i64 (mulI y [e, b])) ∧ Below W.heap.size W w') := (fun W k h => multiples_any (some ⟨k, 0, none⟩) 2 [e, b] y W (by simp) n2 y0 (by omega) (sl_blk h) : ∀ (W : World) (k : Nat), _)
  have HM3 : Hid (∀ (W : World) (k : Nat), Blk W k #[.int .i64 e, .int .i64 b, .int .i64 u] 3 → Calls Tryz.prog 95 #[.int .i64 y, .slice (some ⟨k, 0, none⟩) 3 3] W fun en w' => en = .returned (.int .i64 (mulI y [e, b, u])) ∧ Below W.heap.size W w') := (fun W k h => multiples_any (some ⟨k, 0, none⟩) 3 [e, b, u] y W (by simp) n3 y0 (by omega) (sl_blk h) : ∀ (W : World) (k : Nat), _)
  obtain ⟨b1, b1'⟩ := mulI_bd (l := [e]) (by simp) n1 y0
  obtain ⟨b2, b2'⟩ := mulI_bd (l := [e, b]) (by simp) n2 y0
  obtain ⟨b3, b3'⟩ := mulI_bd (l := [e, b, u]) (by simp) n3 y0
  have HT : Hid (begI ⟨e, b, u⟩ y = 365 * y + mulI y [e] - mulI y [e, b] + mulI y [e, b, u]) := (rfl : begI ⟨e, b, u⟩ y = _)
  obtain ⟨M1, hM1⟩ : ∃ M, M = mulI y [e] := ⟨_, rfl⟩
  obtain ⟨M2, hM2⟩ : ∃ M, M = mulI y [e, b] := ⟨_, rfl⟩
  obtain ⟨M3, hM3⟩ : ∃ M, M = mulI y [e, b, u] := ⟨_, rfl⟩
  rw [← hM1] at HM1 HT b1 b1'
  rw [← hM2] at HM2 HT b2 b2'
  rw [← hM3] at HM3 HT b3 b3'
  have v1 : IntKind.i64.wrap (365 * y) = 365 * y := IntWalk.i64_in _ ⟨by omega, by omega⟩
  have v2 : IntKind.i64.wrap (365 * y + M1) = 365 * y + M1 := IntWalk.i64_in _ ⟨by omega, by omega⟩
  have v3 : IntKind.i64.wrap (365 * y + M1 - M2) = 365 * y + M1 - M2 := IntWalk.i64_in _ ⟨by omega, by omega⟩
  have v4 : IntKind.i64.wrap (365 * y + M1 - M2 + M3) = 365 * y + M1 - M2 + M3 := IntWalk.i64_in _ ⟨by omega, by omega⟩
  clear hM1 hM2 hM3 n1 n2 n3
  go_enter Tryz.func65, Tryz.ntmps65
  go_upto_region 1 with fail
  refine gen_w (fun W => Blk W w.heap.size #[.int .i64 e, .int .i64 b, .int .i64 u] 24 ∧ Below w.heap.size w W) ⟨Blk.at_ rfl, by (repeat (first | exact Below.refl _ _ | assumption | (refine Below.alloc ?_ (by first | omega | (simp; omega) | (simp; done)) _) | (refine Below.setCell ?_ (by first | omega | (simp; omega) | (simp; done)) _) | (refine Below.drew ?_) | (refine belowN ?_ _) | (refine Below.trans ?_ (Below.mono ‹Below _ _ _› (by first | omega | (simp; omega) | (simp; done))))))⟩ ?_
  rintro V ⟨gb, hw⟩
  have hS : ∀ W, Below V.heap.size V W → W.cell? ⟨w.heap.size, 0, none⟩ = some (.int .i64 e) ∧ W.cell? ⟨w.heap.size, 1, none⟩ = some (.int .i64 b) ∧ W.cell? ⟨w.heap.size, 2, none⟩ = some (.int .i64 u) := fun W hW => by
    have g := gb.below hW gb.lt
    have c0 := g.cell 0; have c1 := g.cell 1; have c2 := g.cell 2
    simp at c0 c1 c2
    exact ⟨c0, c1, c2⟩
  have hst : ∀ (k : Nat) (cs : Array Value), Stays (fun x W => ∃ b, x = .slice (some ⟨b, 0, none⟩) k k ∧ Blk W b cs 3) := fun k cs => blk_stays (fun b => .slice (some ⟨b, 0, none⟩) k k)
  refine' wp_region_planE [.eff, .eff, .eff, .eff, .eff, .eff, .eff, .eff, .eff, .eff, .eff, .eff, .eff, .eff, .eff, .eff, .eff, .eff, .eff, .eff, .eff, .eff, .eff, .eff, .eff, .eff, .eff]
    [Det _, Det _, Det _, Det _, Det _, fun x W => ∃ b, x = .slice (some ⟨b, 0, none⟩) 1 1 ∧ Blk W b #[.int .i64 e] 3, Det (.int .i64 M1), Det _, Det _, Det _, Det _, Det _, Det _, fun x W => ∃ k, x = .slice (some ⟨k, 0, none⟩) 2 2 ∧ Blk W k #[.int .i64 e, .int .i64 b] 3, Det (.int .i64 M2), Det _, Det _, Det _, Det _, Det _, Det _, Det _, Det _, fun x W => ∃ k, x = .slice (some ⟨k, 0, none⟩) 3 3 ∧ Blk W k #[.int .i64 e, .int .i64 b, .int .i64 u] 3, Det (.int .i64 M3), Det _, Det _] [(26, 4), (25, 30), (24, 29), (23, 28), (22, 27), (21, 26), (20, 25), (19, 24), (18, 23), (17, 22), (16, 21), (15, 20), (14, 19), (13, 18), (12, 17), (11, 16), (10, 15), (9, 14), (8, 13), (7, 12), (6, 11), (5, 10), (4, 9), (3, 8), (2, 7), (1, 6), (0, 5)] (by kernel_rfl) (by kernel_rfl) (by kernel_rfl) (by kernel_rfl) (by kernel_rfl) (by kernel_rfl) (by kernel_rfl) ?hp ?hend ?hst
  case hp =>
    refine And.intro ⟨[], by kernel_rfl, fun xs W hW hf K hK => opV_free rfl ?_⟩ ?_
    focus (have hs := hS W hW; (try simp only [factsL, pickF, Det, and_true] at hf); (try simp only [putL, Act.put, List.setIfInBounds_toArray, List.set_cons_zero, List.set_cons_succ]); (try simp only [hf]); go_simp; refine hK.out _ _ (Below.refl _ _) ?_; unfold Det; rfl)
    refine And.intro ⟨[(0, 5)], by kernel_rfl, fun xs W hW hf K hK => opV_free rfl ?_⟩ ?_
    focus (have hs := hS W hW; (try simp only [factsL, pickF, Det, and_true] at hf); (try simp only [putL, Act.put, List.setIfInBounds_toArray, List.set_cons_zero, List.set_cons_succ]); (try simp only [hf]); go_simp; refine hK.out _ _ (Below.refl _ _) ?_; unfold Det; rfl)
    refine And.intro ⟨[], by kernel_rfl, fun xs W hW hf K hK => opV_free rfl ?_⟩ ?_
    focus (have hs := hS W hW; (try simp only [factsL, pickF, Det, and_true] at hf); (try simp only [putL, Act.put, List.setIfInBounds_toArray, List.set_cons_zero, List.set_cons_succ]); (try simp only [hf]); go_simp; refine hK.out _ _ (Below.refl _ _) ?_; unfold Det; rfl)
    refine And.intro ⟨[], by kernel_rfl, fun xs W hW hf K hK => opV_free rfl ?_⟩ ?_
    focus (have hs := hS W hW; (try simp only [factsL, pickF, Det, and_true] at hf); (try simp only [putL, Act.put, List.setIfInBounds_toArray, List.set_cons_zero, List.set_cons_succ]); (try simp only [hf]); go_simp; refine hK.out _ _ (Below.refl _ _) ?_; unfold Det; rfl)
    refine And.intro ⟨[(3, 8)], by kernel_rfl, fun xs W hW hf K hK => opV_free rfl ?_⟩ ?_
    focus (have hs := hS W hW; (try simp only [factsL, pickF, Det, and_true] at hf); (try simp only [putL, Act.put, List.setIfInBounds_toArray, List.set_cons_zero, List.set_cons_succ]); (try simp only [hf]); go_simp; refine hK.out _ _ (Below.refl _ _) ?_; unfold Det; rfl)
    refine And.intro ⟨[(4, 9)], by kernel_rfl, fun xs W hW hf K hK => opV_free rfl ?_⟩ ?_
    focus (have hs := hS W hW; simp only [factsL, pickF, Det, and_true] at hf; (try simp only [putL, Act.put, List.setIfInBounds_toArray, List.set_cons_zero, List.set_cons_succ]); simp only [hf]; go_simp; exact hK.out _ _ ((Below.refl _ _).alloc (Nat.le_refl _) _) ⟨_, rfl, Blk.new _ _ _⟩)
    refine And.intro ⟨[(5, 10), (2, 7)], by kernel_rfl, fun xs W hW hf K hK => opV_free rfl ?_⟩ ?_
    focus (simp only [factsL, pickF, Det, and_true] at hf; (try simp only [putL, Act.put, List.setIfInBounds_toArray, List.set_cons_zero, List.set_cons_succ]); (try simp only [hf]); obtain ⟨⟨b9, hx9, hb9⟩, hx8⟩ := hf; simp only [hx9]; go_simp; refine (HM1.out _ _ hb9).mono ?_; rintro _ w9 ⟨rfl, hbw⟩; exact ⟨_, rfl, hK.out _ _ hbw rfl⟩)
    refine And.intro ⟨[(6, 11), (1, 6)], by kernel_rfl, fun xs W hW hf K hK => opV_free rfl ?_⟩ ?_
    focus (have hs := hS W hW; (try simp only [factsL, pickF, Det, and_true] at hf); (try simp only [putL, Act.put, List.setIfInBounds_toArray, List.set_cons_zero, List.set_cons_succ]); (try simp only [hf]); go_simp; refine hK.out _ _ (Below.refl _ _) ?_; unfold Det; rfl)
    refine And.intro ⟨[], by kernel_rfl, fun xs W hW hf K hK => opV_free rfl ?_⟩ ?_
    focus (have hs := hS W hW; (try simp only [factsL, pickF, Det, and_true] at hf); (try simp only [putL, Act.put, List.setIfInBounds_toArray, List.set_cons_zero, List.set_cons_succ]); (try simp only [hf]); go_simp; refine hK.out _ _ (Below.refl _ _) ?_; unfold Det; rfl)
    refine And.intro ⟨[], by kernel_rfl, fun xs W hW hf K hK => opV_free rfl ?_⟩ ?_
    focus (have hs := hS W hW; (try simp only [factsL, pickF, Det, and_true] at hf); (try simp only [putL, Act.put, List.setIfInBounds_toArray, List.set_cons_zero, List.set_cons_succ]); (try simp only [hf]); go_simp; refine hK.out _ _ (Below.refl _ _) ?_; unfold Det; rfl)
    refine And.intro ⟨[(9, 14)], by kernel_rfl, fun xs W hW hf K hK => opV_free rfl ?_⟩ ?_
    focus (have hs := hS W hW; (try simp only [factsL, pickF, Det, and_true] at hf); (try simp only [putL, Act.put, List.setIfInBounds_toArray, List.set_cons_zero, List.set_cons_succ]); (try simp only [hf]); go_simp; refine hK.out _ _ (Below.refl _ _) ?_; unfold Det; rfl)
    refine And.intro ⟨[], by kernel_rfl, fun xs W hW hf K hK => opV_free rfl ?_⟩ ?_
    focus (have hs := hS W hW; (try simp only [factsL, pickF, Det, and_true] at hf); (try simp only [putL, Act.put, List.setIfInBounds_toArray, List.set_cons_zero, List.set_cons_succ]); (try simp only [hf]); go_simp; refine hK.out _ _ (Below.refl _ _) ?_; unfold Det; rfl)
    refine And.intro ⟨[(11, 16)], by kernel_rfl, fun xs W hW hf K hK => opV_free rfl ?_⟩ ?_
    focus (have hs := hS W hW; (try simp only [factsL, pickF, Det, and_true] at hf); (try simp only [putL, Act.put, List.setIfInBounds_toArray, List.set_cons_zero, List.set_cons_succ]); (try simp only [hf]); go_simp; refine hK.out _ _ (Below.refl _ _) ?_; unfold Det; rfl)
    refine And.intro ⟨[(12, 17), (10, 15)], by kernel_rfl, fun xs W hW hf K hK => opV_free rfl ?_⟩ ?_
    focus (have hs := hS W hW; simp only [factsL, pickF, Det, and_true] at hf; (try simp only [putL, Act.put, List.setIfInBounds_toArray, List.set_cons_zero, List.set_cons_succ]); simp only [hf]; go_simp; exact hK.out _ _ ((Below.refl _ _).alloc (Nat.le_refl _) _) ⟨_, rfl, Blk.new _ _ _⟩)
    refine And.intro ⟨[(13, 18), (8, 13)], by kernel_rfl, fun xs W hW hf K hK => opV_free rfl ?_⟩ ?_
    focus (simp only [factsL, pickF, Det, and_true] at hf; (try simp only [putL, Act.put, List.setIfInBounds_toArray, List.set_cons_zero, List.set_cons_succ]); (try simp only [hf]); obtain ⟨⟨b9, hx9, hb9⟩, hx8⟩ := hf; simp only [hx9]; go_simp; refine (HM2.out _ _ hb9).mono ?_; rintro _ w9 ⟨rfl, hbw⟩; exact ⟨_, rfl, hK.out _ _ hbw rfl⟩)
    refine And.intro ⟨[(14, 19), (7, 12)], by kernel_rfl, fun xs W hW hf K hK => opV_free rfl ?_⟩ ?_
    focus (have hs := hS W hW; (try simp only [factsL, pickF, Det, and_true] at hf); (try simp only [putL, Act.put, List.setIfInBounds_toArray, List.set_cons_zero, List.set_cons_succ]); (try simp only [hf]); go_simp; refine hK.out _ _ (Below.refl _ _) ?_; unfold Det; rfl)
    refine And.intro ⟨[], by kernel_rfl, fun xs W hW hf K hK => opV_free rfl ?_⟩ ?_
    focus (have hs := hS W hW; (try simp only [factsL, pickF, Det, and_true] at hf); (try simp only [putL, Act.put, List.setIfInBounds_toArray, List.set_cons_zero, List.set_cons_succ]); (try simp only [hf]); go_simp; refine hK.out _ _ (Below.refl _ _) ?_; unfold Det; rfl)
    refine And.intro ⟨[], by kernel_rfl, fun xs W hW hf K hK => opV_free rfl ?_⟩ ?_
    focus (have hs := hS W hW; (try simp only [factsL, pickF, Det, and_true] at hf); (try simp only [putL, Act.put, List.setIfInBounds_toArray, List.set_cons_zero, List.set_cons_succ]); (try simp only [hf]); go_simp; refine hK.out _ _ (Below.refl _ _) ?_; unfold Det; rfl)
    refine And.intro ⟨[(17, 22)], by kernel_rfl, fun xs W hW hf K hK => opV_free rfl ?_⟩ ?_
    focus (have hs := hS W hW; (try simp only [factsL, pickF, Det, and_true] at hf); (try simp only [putL, Act.put, List.setIfInBounds_toArray, List.set_cons_zero, List.set_cons_succ]); (try simp only [hf]); go_simp; refine hK.out _ _ (Below.refl _ _) ?_; unfold Det; rfl)
    refine And.intro ⟨[], by kernel_rfl, fun xs W hW hf K hK => opV_free rfl ?_⟩ ?_
    focus (have hs := hS W hW; (try simp only [factsL, pickF, Det, and_true] at hf); (try simp only [putL, Act.put, List.setIfInBounds_toArray, List.set_cons_zero, List.set_cons_succ]); (try simp only [hf]); go_simp; refine hK.out _ _ (Below.refl _ _) ?_; unfold Det; rfl)
    refine And.intro ⟨[(19, 24)], by kernel_rfl, fun xs W hW hf K hK => opV_free rfl ?_⟩ ?_
    focus (have hs := hS W hW; (try simp only [factsL, pickF, Det, and_true] at hf); (try simp only [putL, Act.put, List.setIfInBounds_toArray, List.set_cons_zero, List.set_cons_succ]); (try simp only [hf]); go_simp; refine hK.out _ _ (Below.refl _ _) ?_; unfold Det; rfl)
    refine And.intro ⟨[], by kernel_rfl, fun xs W hW hf K hK => opV_free rfl ?_⟩ ?_
    focus (have hs := hS W hW; (try simp only [factsL, pickF, Det, and_true] at hf); (try simp only [putL, Act.put, List.setIfInBounds_toArray, List.set_cons_zero, List.set_cons_succ]); (try simp only [hf]); go_simp; refine hK.out _ _ (Below.refl _ _) ?_; unfold Det; rfl)
    refine And.intro ⟨[(21, 26)], by kernel_rfl, fun xs W hW hf K hK => opV_free rfl ?_⟩ ?_
    focus (have hs := hS W hW; (try simp only [factsL, pickF, Det, and_true] at hf); (try simp only [putL, Act.put, List.setIfInBounds_toArray, List.set_cons_zero, List.set_cons_succ]); (try simp only [hf]); go_simp; refine hK.out _ _ (Below.refl _ _) ?_; unfold Det; rfl)
    refine And.intro ⟨[(22, 27), (20, 25), (18, 23)], by kernel_rfl, fun xs W hW hf K hK => opV_free rfl ?_⟩ ?_
    focus (have hs := hS W hW; simp only [factsL, pickF, Det, and_true] at hf; (try simp only [putL, Act.put, List.setIfInBounds_toArray, List.set_cons_zero, List.set_cons_succ]); simp only [hf]; go_simp; exact hK.out _ _ ((Below.refl _ _).alloc (Nat.le_refl _) _) ⟨_, rfl, Blk.new _ _ _⟩)
    refine And.intro ⟨[(23, 28), (16, 21)], by kernel_rfl, fun xs W hW hf K hK => opV_free rfl ?_⟩ ?_
    focus (simp only [factsL, pickF, Det, and_true] at hf; (try simp only [putL, Act.put, List.setIfInBounds_toArray, List.set_cons_zero, List.set_cons_succ]); (try simp only [hf]); obtain ⟨⟨b9, hx9, hb9⟩, hx8⟩ := hf; simp only [hx9]; go_simp; refine (HM3.out _ _ hb9).mono ?_; rintro _ w9 ⟨rfl, hbw⟩; exact ⟨_, rfl, hK.out _ _ hbw rfl⟩)
    refine And.intro ⟨[(24, 29), (15, 20)], by kernel_rfl, fun xs W hW hf K hK => opV_free rfl ?_⟩ ?_
    focus (have hs := hS W hW; (try simp only [factsL, pickF, Det, and_true] at hf); (try simp only [putL, Act.put, List.setIfInBounds_toArray, List.set_cons_zero, List.set_cons_succ]); (try simp only [hf]); go_simp; refine hK.out _ _ (Below.refl _ _) ?_; unfold Det; rfl)
    refine And.intro ⟨[(25, 30)], by kernel_rfl, fun xs W hW hf K hK => opV_free rfl ?_⟩ ?_
    focus (have hs := hS W hW; (try simp only [factsL, pickF, Det, and_true] at hf); (try simp only [putL, Act.put, List.setIfInBounds_toArray, List.set_cons_zero, List.set_cons_succ]); (try simp only [hf]); go_simp; refine hK.out _ _ (Below.refl _ _) ?_; unfold Det; rfl)
    trivial
  case hst =>
    exact ⟨det_stays, det_stays, det_stays, det_stays, det_stays, hst _ _, det_stays, det_stays, det_stays, det_stays, det_stays, det_stays, det_stays, hst _ _, det_stays, det_stays, det_stays, det_stays, det_stays, det_stays, det_stays, det_stays, det_stays, hst _ _, det_stays, det_stays, det_stays, trivial⟩
  case hend =>
    intro xs W hW hf
    simp only [factsA, Det, Nat.zero_add, Nat.reduceAdd] at hf
    (simp only [putL, Act.put, upd, List.setIfInBounds_toArray, List.set_cons_zero, List.set_cons_succ])
    simp only [hf]
    clear hf
    go_wp2
    go_ret
    exact ⟨ret_int HT.out.symm, bl2 hw hW⟩
end Go.Proofs.YtfbnllmmoaialaaGreat
namespace Go.Proofs.YtfbnllmmoaialaaGreat

theorem lcF_nat (a n : Nat) : lcF (a : Int) (n : Int) = (Nat.lcm n a : Int) := by
  unfold lcF gI
  rw [Int.toNat_natCast, Int.toNat_natCast, ← Int.natCast_ediv, ← Int.natCast_mul]
  congr 1
  unfold Nat.lcm
  rw [Nat.mul_comm n a, Nat.mul_div_assoc _ (Nat.gcd_dvd_left n a)]
/-- the least common multiple divides just what both divide -/
theorem lcF_dvd {a n y : Int} (a1 : 0 ≤ a) (n1 : 0 ≤ n) (y1 : 0 ≤ y) : lcF a n ∣ y ↔ a ∣ y ∧ n ∣ y := by
  obtain ⟨a, rfl⟩ := Int.eq_ofNat_of_zero_le a1
  obtain ⟨n, rfl⟩ := Int.eq_ofNat_of_zero_le n1
  obtain ⟨y, rfl⟩ := Int.eq_ofNat_of_zero_le y1
  rw [lcF_nat, Int.natCast_dvd_natCast, Int.natCast_dvd_natCast, Int.natCast_dvd_natCast, Nat.lcm_dvd_iff]
  exact And.comm
theorem lcL_dvd {l : List Int} (hn : ∀ x ∈ l, 0 ≤ x) {y : Int} (y0 : 0 ≤ y) : lcL l ∣ y ↔ ∀ x ∈ l, x ∣ y := by
  have key : ∀ (l : List Int) (a : Int), 0 ≤ a → (∀ x ∈ l, 0 ≤ x) → (0 ≤ l.foldl lcF a ∧ (l.foldl lcF a ∣ y ↔ a ∣ y ∧ ∀ x ∈ l, x ∣ y)) := fun l => by
    induction l with
    | nil => intro a ha _; exact ⟨ha, by simp⟩
    | cons x l ih =>
      intro a ha hl
      have hx := hl x (by simp)
      have h0 : 0 ≤ lcF a x := by
        obtain ⟨a, rfl⟩ := Int.eq_ofNat_of_zero_le ha
        obtain ⟨x, rfl⟩ := Int.eq_ofNat_of_zero_le hx
        rw [lcF_nat]; omega
      obtain ⟨h1, h2⟩ := ih (lcF a x) h0 fun z hz => hl z (by simp [hz])
      refine ⟨h1, ?_⟩
      rw [List.foldl_cons, h2, lcF_dvd ha hx y0]
      simp [and_assoc]
  have := (key l 1 (by omega) hn).2
  unfold lcL
  rw [this]
  simp
/-- a number that is not 0 divides a year -/
def divB (n y : Int) : Bool := decide (n ≠ 0 ∧ y % n = 0)
theorem ceil_step {y L : Int} (y0 : 0 ≤ y) (hL : 1 ≤ L) : (y + 1 + L - 1) / L - (y + L - 1) / L = if L ∣ y then 1 else 0 := by
  have e1 : y + 1 + L - 1 = y + L := by omega
  have e2 : (y + L) / L = y / L + 1 := by
    have := Int.add_mul_ediv_right y 1 (show L ≠ 0 by omega)
    rw [Int.one_mul] at this; exact this
  have h3 := Int.emod_nonneg y (show L ≠ 0 by omega)
  have h4 := Int.emod_lt_of_pos y (show 0 < L by omega)
  have h5 := Int.mul_ediv_add_emod y L
  obtain ⟨q, hq⟩ : ∃ q, q = y / L := ⟨_, rfl⟩
  obtain ⟨r, hr⟩ : ∃ r, r = y % L := ⟨_, rfl⟩
  rw [← hq, ← hr] at h5
  rw [← hr] at h3 h4
  rw [e1, e2, ← hq]
  have e3 : y + L - 1 = r + L - 1 + q * L := by rw [Int.mul_comm q L]; omega
  have e4 : (y + L - 1) / L = (r + L - 1) / L + q := by rw [e3, Int.add_mul_ediv_right _ _ (by omega)]
  by_cases hd : L ∣ y
  · have hr0 : r = 0 := by rw [hr]; exact Int.emod_eq_zero_of_dvd hd
    rw [if_pos hd, e4, hr0]
    have : (0 + L - 1) / L = 0 := Int.ediv_eq_zero_of_lt (by omega) (by omega)
    omega
  · have hr0 : r ≠ 0 := fun h => hd (Int.dvd_of_emod_eq_zero (by rw [← hr]; exact h))
    rw [if_neg hd, e4]
    have e5 : (r + L - 1) / L = 1 := by
      have e6 : r + L - 1 = r - 1 + 1 * L := by omega
      rw [e6, Int.add_mul_ediv_right _ _ (by omega), Int.ediv_eq_zero_of_lt (by omega) (by omega)]; rfl
    omega
/-- one year more -/
theorem mulI_step {y : Int} {l : List Int} (hl : l.length ≤ 3) (hn : ∀ x ∈ l, 0 ≤ x ∧ x ≤ 100000) (y0 : 0 ≤ y) : mulI (y + 1) l - mulI y l = if l.all (fun n => divB n y) then 1 else 0 := by
  unfold mulI
  by_cases h : l.any (fun x => x == 0) = true
  · rw [if_pos h, if_pos h]
    obtain ⟨x, hx, h2⟩ := List.any_eq_true.1 h
    rw [if_neg]
    · rfl
    · intro h3
      have := List.all_eq_true.1 h3 x hx
      have h4 : x = 0 := by simpa using h2
      subst h4
      simp [divB] at this
  · rw [if_neg h, if_neg h]
    have hp : ∀ x ∈ l, 1 ≤ x ∧ x ≤ 100000 := fun x hx => by
      rw [Bool.not_eq_true, List.any_eq_false] at h
      have h1 := h x hx
      have h2 := hn x hx
      simp at h1
      omega
    have h1 := (lcL_bd l.length (l := l) (Nat.le_refl _) (by rw [List.take_length]; exact hp)).1
    rw [List.take_length] at h1
    rw [ceil_step y0 h1]
    have h2 := lcL_dvd (fun x hx => (hn x hx).1) y0 (l := l)
    have h3 : lcL l ∣ y ↔ (l.all fun n => divB n y) = true := by
      rw [h2, List.all_eq_true]
      exact ⟨fun h x hx => by
        have := hp x hx
        simp only [divB, decide_eq_true_eq]
        exact ⟨by omega, Int.emod_eq_zero_of_dvd (h x hx)⟩, fun h x hx => by
        have := h x hx
        simp only [divB, decide_eq_true_eq] at this
        exact Int.dvd_of_emod_eq_zero this.2⟩
    simp only [h3]
/-- a year is long -/
def longB (r : Sol) (y : Int) : Bool := divB r.e y && (!divB r.b y || divB r.u y)
def yearN (r : Sol) (y : Int) : Int := if longB r y then 366 else 365
theorem yearN_bd (r : Sol) (y : Int) : 365 ≤ yearN r y ∧ yearN r y ≤ 366 := by unfold yearN; split <;> omega
theorem begI_step {r : Sol} (ok : SolOk r) {y : Int} (y0 : 0 ≤ y) : begI r (y + 1) = begI r y + yearN r y := by
  obtain ⟨o1, o2, o3⟩ := ok
  have h1 := mulI_step (l := [r.e]) (by simp) (fun x hx => by simp at hx; omega) y0
  have h2 := mulI_step (l := [r.e, r.b]) (by simp) (fun x hx => by simp at hx; omega) y0
  have h3 := mulI_step (l := [r.e, r.b, r.u]) (by simp) (fun x hx => by simp at hx; omega) y0
  simp only [List.all_cons, List.all_nil, Bool.and_true] at h1 h2 h3
  unfold begI yearN longB
  generalize divB r.e y = p at *
  generalize divB r.b y = q at *
  generalize divB r.u y = s at *
  cases p <;> cases q <;> cases s <;> simp only [Bool.and_true, Bool.and_false, Bool.true_and, Bool.false_and, Bool.not_true, Bool.not_false, Bool.or_true, Bool.or_false, Bool.true_or, Bool.false_or, if_true, if_false, Bool.false_eq_true] at h1 h2 h3 ⊢ <;> omega
theorem begI_zero {r : Sol} (ok : SolOk r) : begI r 0 = 0 := by
  obtain ⟨o1, o2, o3⟩ := ok
  have h1 := mulI_bd (l := [r.e]) (y := 0) (by simp) (fun x hx => by simp at hx; omega) (by omega)
  have h2 := mulI_bd (l := [r.e, r.b]) (y := 0) (by simp) (fun x hx => by simp at hx; omega) (by omega)
  have h3 := mulI_bd (l := [r.e, r.b, r.u]) (y := 0) (by simp) (fun x hx => by simp at hx; omega) (by omega)
  unfold begI; omega
theorem begI_bd {r : Sol} (ok : SolOk r) : ∀ y : Nat, 365 * (y : Int) ≤ begI r y ∧ begI r y ≤ 366 * (y : Int)
  | 0 => by have := begI_zero ok; simp only [Int.natCast_zero] at this ⊢; omega
  | y + 1 => by
    have h1 := begI_bd ok y
    have h2 := begI_step ok (y := (y : Int)) (by omega)
    have h3 := yearN_bd r (y : Int)
    have e : ((y + 1 : Nat) : Int) = (y : Int) + 1 := by omega
    rw [e, h2]; omega
theorem begI_mono {r : Sol} (ok : SolOk r) {x y : Nat} (h : x ≤ y) : begI r x + 365 * ((y : Int) - x) ≤ begI r y := by
  obtain ⟨d, rfl⟩ := Nat.exists_eq_add_of_le h
  induction d with
  | zero => simp
  | succ d ih =>
    have h1 := ih (by omega)
    have h2 := begI_step ok (y := ((x + d : Nat) : Int)) (by omega)
    have h3 := yearN_bd r ((x + d : Nat) : Int)
    have e : ((x + (d + 1) : Nat) : Int) = ((x + d : Nat) : Int) + 1 := by omega
    rw [e, h2]; omega
theorem findIdx_is {n i : Nat} {p : Nat → Bool} (hi : i ≤ n) (h1 : ∀ k, k < i → p k = false) (h2 : i < n → p i = true) : (List.range n).findIdx p = i := by
  rcases Nat.lt_or_ge i n with h | h
  · rw [List.findIdx_eq (by simpa using h)]
    refine ⟨by simpa using h2 h, fun j hj => by simpa using h1 j hj⟩
  · obtain rfl : i = n := by omega
    rw [List.findIdx_eq_length_of_false]
    · simp
    · intro x hx; exact h1 x (List.mem_range.1 hx)
/-- the year of a day, among the first n -/
def yearF (r : Sol) (n : Nat) (d : Int) : Nat := (List.range n).findIdx fun y : Nat => decide (d < begI r ((y : Int) + 1))
theorem yearF_spec {r : Sol} (ok : SolOk r) {d : Int} {n : Nat} (d0 : 0 ≤ d) (hn : d < begI r n) : begI r (yearF r n d) ≤ d ∧ d < begI r ((yearF r n d : Int) + 1) ∧ yearF r n d < n := by
  have n0 : 0 < n := by
    rcases Nat.eq_zero_or_pos n with h | h
    · subst h; have := begI_zero ok; simp only [Int.natCast_zero] at hn; omega
    · exact h
  have hlt : yearF r n d < n := by
    unfold yearF
    have : ∃ x ∈ List.range n, (decide (d < begI r ((x : Int) + 1))) = true := ⟨n - 1, by simp; omega, by
      have e : ((n - 1 : Nat) : Int) + 1 = (n : Int) := by omega
      rw [e]; simpa using hn⟩
    have h2 := List.findIdx_lt_length_of_exists this
    simpa using h2
  have h1 : d < begI r ((yearF r n d : Int) + 1) := by
    have h2 := List.findIdx_getElem (p := fun y : Nat => decide (d < begI r ((y : Int) + 1))) (xs := List.range n) (w := by rw [List.length_range]; exact hlt)
    simpa [yearF] using h2
  refine ⟨?_, h1, hlt⟩
  rcases Nat.eq_zero_or_pos (yearF r n d) with h | h
  · rw [h]; have := begI_zero ok; simp only [Int.natCast_zero] at this ⊢; omega
  · have h2 := List.not_of_lt_findIdx (p := fun y : Nat => decide (d < begI r ((y : Int) + 1))) (xs := List.range n) (i := yearF r n d - 1) (by unfold yearF at h ⊢; omega)
    simp at h2
    have e : ((yearF r n d - 1 : Nat) : Int) + 1 = (yearF r n d : Int) := by omega
    rw [e] at h2
    exact h2
theorem yearF_is {r : Sol} (ok : SolOk r) {d : Int} {y n : Nat} (h1 : begI r y ≤ d) (h2 : d < begI r ((y : Int) + 1)) (hy : y ≤ n) : yearF r n d = y := by
  refine findIdx_is hy (fun k hk => ?_) (fun _ => by simpa using h2)
  have h3 := begI_mono ok (x := k + 1) (y := y) (by omega)
  have e : ((k + 1 : Nat) : Int) = (k : Int) + 1 := by omega
  rw [e] at h3
  simp; omega
/-- the year of a day -/
def yearI (r : Sol) (d : Int) : Nat := yearF r 2740 d
theorem yearI_spec {r : Sol} (ok : SolOk r) {d : Int} (d0 : 0 ≤ d) (d1 : d ≤ 1000000) : begI r (yearI r d) ≤ d ∧ d < begI r ((yearI r d : Int) + 1) ∧ yearI r d < 2740 :=
  yearF_spec ok d0 (by have := begI_bd ok 2740; omega)
theorem yearI_is {r : Sol} (ok : SolOk r) {d : Int} {y : Nat} (h1 : begI r y ≤ d) (h2 : d < begI r ((y : Int) + 1)) (hy : y ≤ 2740) : yearI r d = y := yearF_is ok h1 h2 hy
/-- how many days the months have, in a year with so many days more than 365 -/
def monL (x : Int) : List Int := [31, 28 + x, 31, 30, 31, 30, 31, 31, 30, 31, 30, 31]
/-- month and day, month by month -/
def walkM : List Int → Int → Int → Int × Int
  | [], m, d => (m, d)
  | n :: l, m, d => if d ≤ n then (m, d) else walkM l (m + 1) (d - n)
structure SDate where
  y : Int
  m : Int
  d : Int
def SDate.cells (x : SDate) : List Value := [.int .i64 x.y, .int .i64 x.m, .int .i64 x.d]
def extraN (r : Sol) (y : Int) : Int := begI r (y + 1) - begI r y - 365
/-- the date of a day -/
def solI (r : Sol) (d : Int) : SDate :=
  ⟨yearI r d, (walkM (monL (extraN r (yearI r d))) 1 (d - begI r (yearI r d) + 1)).1, (walkM (monL (extraN r (yearI r d))) 1 (d - begI r (yearI r d) + 1)).2⟩
end Go.Proofs.YtfbnllmmoaialaaGreat

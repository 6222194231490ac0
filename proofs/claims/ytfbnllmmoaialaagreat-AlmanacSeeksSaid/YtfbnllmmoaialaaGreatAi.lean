/- almanac: lunar, Lunar. -/
import Derived.Test.YtfbnllmmoaialaaGreatAh
import Derived.Test.YtfbnllmmoaialaaGreatZ01Ac
namespace Go.Proofs.YtfbnllmmoaialaaGreat
open Go.RowKit

/-- the first day of a month by its number, the first month of a year -/
def BI (r : Lun) (n : Int) : Int := atW r.d r.p r.f n
def FI (r : Lun) (n : Int) : Int := atW r.m r.y r.s n
def mI (r : Lun) (d : Int) : Int := turnsW r.d r.p r.f d
def yI (r : Lun) (d : Int) : Int := turnsW r.m r.y r.s (mI r d)
structure LDate where
  y : Int
  m : Int
  d : Int
  k : Bool
def LDate.cells (x : LDate) : List Value := [.int .i64 x.y, .int .i64 x.m, .int .i64 x.d, .bool x.k]
/-- the number of the month in its year, the repeated one counted -/
def m0I (r : Lun) (d : Int) : Int := mI r d - FI r (yI r d) + 1
def longM (r : Lun) (y : Int) : Bool := FI r (y + 1) - FI r y == 13
def moonI (r : Lun) (d : Int) : LDate :=
  if longM r (yI r d) && decide (r.l < m0I r d) then ⟨yI r d, m0I r d - 1, d - BI r (mI r d) + 1, m0I r d == r.l + 1⟩ else ⟨yI r d, m0I r d, d - BI r (mI r d) + 1, false⟩
theorem ediv_bd {x p B : Int} (hp : 1 ≤ p) (h0 : 0 ≤ x) (h1 : x ≤ B) : 0 ≤ x / p ∧ x / p ≤ B := by
  have h2 := Int.ediv_nonneg h0 (show 0 ≤ p by omega)
  have h3 := Int.ediv_mul_le x (show p ≠ 0 by omega)
  have h4 := Int.mul_le_mul_of_nonneg_left hp h2
  omega
theorem mul_bd {a b A B : Int} (a0 : 0 ≤ a) (a1 : a ≤ A) (b0 : 0 ≤ b) (b1 : b ≤ B) : 0 ≤ a * b ∧ a * b ≤ A * B := by
  have h1 := Int.mul_nonneg a0 b0
  have h2 := Int.mul_le_mul a1 b1 b0 (by omega)
  exact ⟨h1, h2⟩
theorem BI_bd {r : Lun} (ok : LunOk r) {n : Int} (n0 : 0 ≤ n) (n1 : n ≤ 3000000) : (0 ≤ r.d * n ∧ r.d * n ≤ 9300000000000) ∧ 0 ≤ BI r n ∧ BI r n ≤ 10000000000000 := by
  obtain ⟨p, d, f, y, m, s, l⟩ := ok
  have h := mul_bd (a := r.d) (b := n) (A := 3100000) (B := 3000000) (by omega) (by omega) n0 n1
  have h2 := ediv_bd (x := r.d * n + r.f) (p := r.p) (B := 10000000000000) p.1 (by omega) (by omega)
  exact ⟨by omega, h2⟩
theorem FI_bd {r : Lun} (ok : LunOk r) {n : Int} (n0 : 0 ≤ n) (n1 : n ≤ 3000000) : (0 ≤ r.m * n ∧ r.m * n ≤ 9300000000000) ∧ 0 ≤ FI r n ∧ FI r n ≤ 10000000000000 := by
  obtain ⟨p, d, f, y, m, s, l⟩ := ok
  have h := mul_bd (a := r.m) (b := n) (A := 1300000) (B := 3000000) (by omega) (by omega) n0 n1
  have h2 := ediv_bd (x := r.m * n + r.s) (p := r.y) (B := 10000000000000) y.1 (by omega) (by omega)
  exact ⟨by omega, h2⟩
theorem turns_bd {b p s x B : Int} (p1 : 1 ≤ p) (s0 : 0 ≤ s) (s1 : s ≤ p - 1) (hb : p ≤ b) (x0 : 0 ≤ x) (x1 : x ≤ B) : 0 ≤ turnsW b p s x ∧ turnsW b p s x ≤ B + 1 := by
  unfold turnsW
  have h0 : p ≤ (x + 1) * p := by have := Int.mul_le_mul_of_nonneg_right (show 1 ≤ x + 1 by omega) (show 0 ≤ p by omega); omega
  have h1 : (x + 1) * p ≤ (B + 1) * b := by
    have h2 := Int.mul_le_mul (show x + 1 ≤ B + 1 by omega) hb (by omega) (by omega)
    exact h2
  refine ⟨Int.ediv_nonneg (by omega) (by omega), ?_⟩
  exact Int.ediv_le_of_le_mul (show 0 < b by omega) (by omega)
theorem mI_bd {r : Lun} (ok : LunOk r) {d : Int} (d0 : 0 ≤ d) (d1 : d ≤ 1000001) : 0 ≤ mI r d ∧ mI r d ≤ 1000002 :=
  turns_bd (b := r.d) (p := r.p) (s := r.f) (x := d) (B := 1000001) ok.p.1 ok.f.1 ok.f.2 (by have := ok.d; have := ok.p; omega) d0 d1
theorem yI_bd {r : Lun} (ok : LunOk r) {d : Int} (d0 : 0 ≤ d) (d1 : d ≤ 1000001) : 0 ≤ yI r d ∧ yI r d ≤ 1000003 := by
  obtain ⟨h1, h2⟩ := mI_bd ok d0 d1
  exact turns_bd (b := r.m) (p := r.y) (s := r.s) (x := mI r d) (B := 1000002) ok.y.1 ok.s.1 ok.s.2 (by have := ok.m; have := ok.y; omega) h1 h2
theorem blk4 {W : World} {b t : Nat} {x y z q : Value} (h : Blk W b #[x, y, z, q] t) (u v r o : Value) : Blk ((((W.setCell ⟨b, 0, none⟩ u).setCell ⟨b, 1, none⟩ v).setCell ⟨b, 2, none⟩ r).setCell ⟨b, 3, none⟩ o) b #[u, v, r, o] t := by
  have := (((h.set 0 u).set 1 v).set 2 r).set 3 o
  simpa using this
set_option maxRecDepth 100000 in
set_option maxHeartbeats 4000000 in
theorem lunar_any (d p f m y s l n : Int) (w : World) (ok : LunOk ⟨d, p, f, m, y, s, l⟩) (n0 : 0 ≤ n) (n1 : n ≤ 1000001) :
    Calls Tryz.prog 42 #[.agg #[.int .i64 d, .int .i64 p, .int .i64 f, .int .i64 m, .int .i64 y, .int .i64 s, .int .i64 l], .int .i64 n] w fun en w' => en = .returned (.agg #[.int .i64 (moonI ⟨d, p, f, m, y, s, l⟩ n).y, .int .i64 (moonI ⟨d, p, f, m, y, s, l⟩ n).m, .int .i64 (moonI ⟨d, p, f, m, y, s, l⟩ n).d, .bool (moonI ⟨d, p, f, m, y, s, l⟩ n).k]) ∧ Below w.heap.size w w' := by
  obtain ⟨M, hM⟩ : ∃ M, M = mI ⟨d, p, f, m, y, s, l⟩ n := ⟨_, rfl⟩
  obtain ⟨Y, hY⟩ : ∃ Y, Y = yI ⟨d, p, f, m, y, s, l⟩ n := ⟨_, rfl⟩
  have hMb := mI_bd ok n0 n1
  have hYb := yI_bd ok n0 n1
  rw [← hM] at hMb
  rw [← hY] at hYb
  obtain ⟨f1, f2⟩ := FI_bd ok (n := Y) (by omega) (by omega)
  obtain ⟨f3, f4⟩ := FI_bd ok (n := Y + 1) (by omega) (by omega)
  obtain ⟨f5, f6⟩ := BI_bd ok (n := M) (by omega) (by omega)
  have okp := ok.p; have okd := ok.d; have okf := ok.f; have oky := ok.y; have okm := ok.m; have oks := ok.s; have okl := ok.l
  simp only at f1 f3 f5 okp okd okf oky okm oks okl
  have HM := Lib.hid (fun W => (by have h := wheelTurns_any d p f n W (by omega) n0 (by omega) (by omega) (by omega) (by omega) (by omega); rw [show turnsW d p f n = M from hM.symm] at h; exact h : Calls Tryz.prog 68 #[.agg #[.int .i64 d, .int .i64 p, .int .i64 f], .int .i64 n] W fun e w' => e = .returned (.int .i64 M) ∧ Below W.heap.size W w'))
  have HY := Lib.hid (fun W => (by have h := wheelTurns_any m y s M W (by omega) hMb.1 (by omega) (by omega) (by omega) (by omega) (by omega); rw [show turnsW m y s M = Y by rw [hY, hM]; rfl] at h; exact h : Calls Tryz.prog 68 #[.agg #[.int .i64 m, .int .i64 y, .int .i64 s], .int .i64 M] W fun e w' => e = .returned (.int .i64 Y) ∧ Below W.heap.size W w'))
  obtain ⟨F1, hF1⟩ : ∃ F, F = FI ⟨d, p, f, m, y, s, l⟩ Y := ⟨_, rfl⟩
  obtain ⟨F2, hF2⟩ : ∃ F, F = FI ⟨d, p, f, m, y, s, l⟩ (Y + 1) := ⟨_, rfl⟩
  obtain ⟨B, hB⟩ : ∃ F, F = BI ⟨d, p, f, m, y, s, l⟩ M := ⟨_, rfl⟩
  have HF1 := Lib.hid (fun W => (by have h := wheelAt_any m y s Y W (by omega) f1.1 (by omega) (by omega) (by omega); rw [show atW m y s Y = F1 from hF1.symm] at h; exact h : Calls Tryz.prog 69 #[.agg #[.int .i64 m, .int .i64 y, .int .i64 s], .int .i64 Y] W fun e w' => e = .returned (.int .i64 F1) ∧ Below W.heap.size W w'))
  have HF2 := Lib.hid (fun W => (by have h := wheelAt_any m y s (Y + 1) W (by omega) f3.1 (by omega) (by omega) (by omega); rw [show atW m y s (Y + 1) = F2 from hF2.symm] at h; exact h : Calls Tryz.prog 69 #[.agg #[.int .i64 m, .int .i64 y, .int .i64 s], .int .i64 (Y + 1)] W fun e w' => e = .returned (.int .i64 F2) ∧ Below W.heap.size W w'))
  have HB := Lib.hid (fun W => (by have h := wheelAt_any d p f M W (by omega) f5.1 (by omega) (by omega) (by omega); rw [show atW d p f M = B from hB.symm] at h; exact h : Calls Tryz.prog 69 #[.agg #[.int .i64 d, .int .i64 p, .int .i64 f], .int .i64 M] W fun e w' => e = .returned (.int .i64 B) ∧ Below W.heap.size W w'))
  have HX : Hid (moonI ⟨d, p, f, m, y, s, l⟩ n = if (F2 - F1 == 13) && decide (l < M - F1 + 1) then ⟨Y, M - F1 + 1 - 1, n - B + 1, M - F1 + 1 == l + 1⟩ else ⟨Y, M - F1 + 1, n - B + 1, false⟩) := (by rw [hF2, hF1, hB, hY, hM]; rfl : moonI ⟨d, p, f, m, y, s, l⟩ n = _)
  rw [← hF1] at f2
  rw [← hF2] at f4
  rw [← hB] at f6
  have v1 : IntKind.i64.wrap (M - F1) = M - F1 := IntWalk.i64_in _ ⟨by omega, by omega⟩
  have v2 : IntKind.i64.wrap (M - F1 + 1) = M - F1 + 1 := IntWalk.i64_in _ ⟨by omega, by omega⟩
  have v3 : IntKind.i64.wrap (n - B) = n - B := IntWalk.i64_in _ ⟨by omega, by omega⟩
  have v4 : IntKind.i64.wrap (n - B + 1) = n - B + 1 := IntWalk.i64_in _ ⟨by omega, by omega⟩
  have v5 : IntKind.i64.wrap (Y + 1) = Y + 1 := IntWalk.i64_in _ ⟨by omega, by omega⟩
  have v6 : IntKind.i64.wrap (F2 - F1) = F2 - F1 := IntWalk.i64_in _ ⟨by omega, by omega⟩
  have v7 : IntKind.i64.wrap (M - F1 + 1 - 1) = M - F1 + 1 - 1 := IntWalk.i64_in _ ⟨by omega, by omega⟩
  have v8 : IntKind.i64.wrap (l + 1) = l + 1 := IntWalk.i64_in _ ⟨by omega, by omega⟩
  clear hM hY hF1 hF2 hB ok f1 f3 f5 f2 f4 f6 hMb hYb okp okd okf oky okm oks okl
  go_enter Tryz.func42, Tryz.ntmps42
  go_upto_region 1 with fail
  refine gen_w (fun W => Blk W w.heap.size #[.int .i64 d, .int .i64 p, .int .i64 f, .int .i64 m, .int .i64 y, .int .i64 s, .int .i64 l] 26 ∧ Blk W (w.heap.size + 1) #[.int .i64 0, .int .i64 0, .int .i64 0, .bool false] 59 ∧ Below w.heap.size w W) ⟨(Blk.at_ rfl).alloc _, Blk.at_ (by simp), by (repeat (first | exact Below.refl _ _ | assumption | (refine Below.alloc ?_ (by first | omega | (simp; omega) | (simp; done)) _) | (refine Below.setCell ?_ (by first | omega | (simp; omega) | (simp; done)) _) | (refine Below.drew ?_) | (refine belowN ?_ _) | (refine Below.trans ?_ (Below.mono ‹Below _ _ _› (by first | omega | (simp; omega) | (simp; done))))))⟩ ?_
  rintro V0 ⟨g2, gz, hw0⟩
  have c0 := g2.cell 0; have c1 := g2.cell 1; have c2 := g2.cell 2; have c3 := g2.cell 3; have c4 := g2.cell 4; have c5 := g2.cell 5; have c6 := g2.cell 6
  simp at c0 c1 c2 c3 c4 c5 c6
  go_upto_region 2 with (go_at_call 67; refine (wheels_any d p f m y s l _).mono ?_; rintro _ V1 ⟨rfl, hb1⟩)
  obtain ⟨b5, hb5⟩ : ∃ b, b = V1.heap.size := ⟨_, rfl⟩
  have h5w : w.heap.size + 1 < b5 := by have := hb1.size; have := gz.lt; omega
  refine gen_w (fun W => Blk W w.heap.size #[.int .i64 d, .int .i64 p, .int .i64 f, .int .i64 m, .int .i64 y, .int .i64 s, .int .i64 l] 26 ∧ Blk W (w.heap.size + 1) #[.int .i64 0, .int .i64 0, .int .i64 0, .bool false] 59 ∧ Blk W b5 #[.int .i64 d, .int .i64 p, .int .i64 f] 107 ∧ Blk W (b5 + 1) #[.int .i64 m, .int .i64 y, .int .i64 s] 107 ∧ Below w.heap.size w W) ⟨((g2.below hb1 g2.lt).alloc _).alloc _, ((gz.below hb1 gz.lt).alloc _).alloc _, by rw [hb5]; exact (Blk.new _ _ _).alloc _, by rw [hb5]; exact Blk.at_ (by simp), bla (bla (bl2 hw0 hb1))⟩ ?_
  rw [← hb5]
  clear g2 gz hw0 hb1 hb5 c0 c1 c2 c3 c4 c5 c6
  rintro V2 ⟨g2, gz, g5, g6, hw⟩
  (have a0 := g5.cell 0; have a1 := g5.cell 1; have a2 := g5.cell 2; have b0 := g6.cell 0; have b1 := g6.cell 1; have b2 := g6.cell 2; have c6 := g2.cell 6; simp at a0 a1 a2 b0 b1 b2 c6)
  go_upto_region 4 with (first | (go_at_call 68; (with_reducible refine (HM.out _).mono ?_); rintro _ V3 ⟨rfl, hb3⟩; have hw := bl2 hw hb3; have g2 := g2.below hb3 g2.lt; have gz := gz.below hb3 gz.lt; have g5 := g5.below hb3 g5.lt; have g6 := g6.below hb3 g6.lt; (have a0 := g5.cell 0; have a1 := g5.cell 1; have a2 := g5.cell 2; have b0 := g6.cell 0; have b1 := g6.cell 1; have b2 := g6.cell 2; have c6 := g2.cell 6; simp at a0 a1 a2 b0 b1 b2 c6)) | (go_at_call 68; (with_reducible refine (HY.out _).mono ?_); rintro _ V4 ⟨rfl, hb4⟩; have hw := bl2 hw hb4; have g2 := g2.below hb4 g2.lt; have gz := gz.below hb4 gz.lt; have g5 := g5.below hb4 g5.lt; have g6 := g6.below hb4 g6.lt))
  clear a0 a1 a2 b0 b1 b2 c6
  have hS : ∀ W, Below V4.heap.size V4 W → W.cell? ⟨b5, 0, none⟩ = some (.int .i64 d) ∧ W.cell? ⟨b5, 1, none⟩ = some (.int .i64 p) ∧ W.cell? ⟨b5, 2, none⟩ = some (.int .i64 f) ∧ W.cell? ⟨b5 + 1, 0, none⟩ = some (.int .i64 m) ∧ W.cell? ⟨b5 + 1, 1, none⟩ = some (.int .i64 y) ∧ W.cell? ⟨b5 + 1, 2, none⟩ = some (.int .i64 s) := fun W hW => by
    have g5 := g5.below hW g5.lt
    have g6 := g6.below hW g6.lt
    have a0 := g5.cell 0; have a1 := g5.cell 1; have a2 := g5.cell 2; have b0 := g6.cell 0; have b1 := g6.cell 1; have b2 := g6.cell 2
    simp at a0 a1 a2 b0 b1 b2
    exact ⟨a0, a1, a2, b0, b1, b2⟩
  go_cut [9] (fun s9 wx => ∃ b9 : Nat, s9 = .pointer (some ⟨b9, 0, none⟩) ∧ Hid (Below V4.heap.size V4 wx) ∧ V4.heap.size ≤ b9 ∧ Hid (Blk wx b9 #[.int .i64 Y, .int .i64 (M - F1 + 1), .int .i64 (n - B + 1), .bool false] 59))
  case first =>
    refine' wp_region_plan 15 [14, 13, 12, 11, 10, 9, 8, 7, 6, 5, 4, 3, 2, 1, 0] [.eff, .eff, .eff, .eff, .eff, .eff, .eff, .eff, .eff, .eff, .eff, .eff, .eff, .eff, .eff, .last] [Det _, Det _, Det _, Det _, Det (.int .i64 F1), Det _, Det _, Det _, Det _, Det _, Det (.int .i64 B), Det _, Det _, Det _, fun x W => ∃ b9, x = .pointer (some ⟨b9, 0, none⟩) ∧ Blk W b9 #[.int .i64 0, .int .i64 0, .int .i64 0, .bool false] 59 ∧ V4.heap.size ≤ b9, noF] rfl [(14, 9), (13, 34)] [(14, 9), (13, 34), (12, 33), (11, 32), (10, 31), (9, 30), (8, 29), (7, 28), (6, 27), (5, 26), (4, 25), (3, 24), (2, 23), (1, 22), (0, 21)] (by kernel_rfl) (by kernel_rfl) (by kernel_rfl) (by kernel_rfl) (by kernel_rfl) (by kernel_rfl) (by kernel_rfl) (by kernel_rfl) (by kernel_rfl) rfl ?hp ?hend ?hst
    case hp =>
      refine And.intro ⟨[], by kernel_rfl, fun xs W hW hf K hK => opV_free rfl ?_⟩ ?_
      focus (have hs := hS W hW; (try simp only [factsL, pickF, Det, and_true] at hf); (try simp only [putL, Act.put, List.setIfInBounds_toArray, List.set_cons_zero, List.set_cons_succ]); (try simp only [hf]); go_simp; refine hK.out _ _ (Below.refl _ _) ?_; unfold Det; rfl)
      refine And.intro ⟨[], by kernel_rfl, fun xs W hW hf K hK => opV_free rfl ?_⟩ ?_
      focus (have hs := hS W hW; (try simp only [factsL, pickF, Det, and_true] at hf); (try simp only [putL, Act.put, List.setIfInBounds_toArray, List.set_cons_zero, List.set_cons_succ]); (try simp only [hf]); go_simp; refine hK.out _ _ (Below.refl _ _) ?_; unfold Det; rfl)
      refine And.intro ⟨[], by kernel_rfl, fun xs W hW hf K hK => opV_free rfl ?_⟩ ?_
      focus (have hs := hS W hW; (try simp only [factsL, pickF, Det, and_true] at hf); (try simp only [putL, Act.put, List.setIfInBounds_toArray, List.set_cons_zero, List.set_cons_succ]); (try simp only [hf]); go_simp; refine hK.out _ _ (Below.refl _ _) ?_; unfold Det; rfl)
      refine And.intro ⟨[], by kernel_rfl, fun xs W hW hf K hK => opV_free rfl ?_⟩ ?_
      focus (have hs := hS W hW; (try simp only [factsL, pickF, Det, and_true] at hf); (try simp only [putL, Act.put, List.setIfInBounds_toArray, List.set_cons_zero, List.set_cons_succ]); (try simp only [hf]); go_simp; refine hK.out _ _ (Below.refl _ _) ?_; unfold Det; rfl)
      refine And.intro ⟨[(3, 24), (2, 23)], by kernel_rfl, fun xs W hW hf K hK => opV_free rfl ?_⟩ ?_
      focus (simp only [factsL, pickF, Det, and_true] at hf; (try simp only [putL, Act.put, List.setIfInBounds_toArray, List.set_cons_zero, List.set_cons_succ]); (try simp only [hf]); go_simp; refine (HF1.out _).mono ?_; rintro _ w9 ⟨rfl, hbw⟩; exact ⟨_, rfl, hK.out _ _ hbw rfl⟩)
      refine And.intro ⟨[(4, 25), (1, 22)], by kernel_rfl, fun xs W hW hf K hK => opV_free rfl ?_⟩ ?_
      focus (have hs := hS W hW; (try simp only [factsL, pickF, Det, and_true] at hf); (try simp only [putL, Act.put, List.setIfInBounds_toArray, List.set_cons_zero, List.set_cons_succ]); (try simp only [hf]); go_simp; refine hK.out _ _ (Below.refl _ _) ?_; unfold Det; rfl)
      refine And.intro ⟨[(5, 26)], by kernel_rfl, fun xs W hW hf K hK => opV_free rfl ?_⟩ ?_
      focus (have hs := hS W hW; (try simp only [factsL, pickF, Det, and_true] at hf); (try simp only [putL, Act.put, List.setIfInBounds_toArray, List.set_cons_zero, List.set_cons_succ]); (try simp only [hf]); go_simp; refine hK.out _ _ (Below.refl _ _) ?_; unfold Det; rfl)
      refine And.intro ⟨[], by kernel_rfl, fun xs W hW hf K hK => opV_free rfl ?_⟩ ?_
      focus (have hs := hS W hW; (try simp only [factsL, pickF, Det, and_true] at hf); (try simp only [putL, Act.put, List.setIfInBounds_toArray, List.set_cons_zero, List.set_cons_succ]); (try simp only [hf]); go_simp; refine hK.out _ _ (Below.refl _ _) ?_; unfold Det; rfl)
      refine And.intro ⟨[], by kernel_rfl, fun xs W hW hf K hK => opV_free rfl ?_⟩ ?_
      focus (have hs := hS W hW; (try simp only [factsL, pickF, Det, and_true] at hf); (try simp only [putL, Act.put, List.setIfInBounds_toArray, List.set_cons_zero, List.set_cons_succ]); (try simp only [hf]); go_simp; refine hK.out _ _ (Below.refl _ _) ?_; unfold Det; rfl)
      refine And.intro ⟨[], by kernel_rfl, fun xs W hW hf K hK => opV_free rfl ?_⟩ ?_
      focus (have hs := hS W hW; (try simp only [factsL, pickF, Det, and_true] at hf); (try simp only [putL, Act.put, List.setIfInBounds_toArray, List.set_cons_zero, List.set_cons_succ]); (try simp only [hf]); go_simp; refine hK.out _ _ (Below.refl _ _) ?_; unfold Det; rfl)
      refine And.intro ⟨[(9, 30), (8, 29)], by kernel_rfl, fun xs W hW hf K hK => opV_free rfl ?_⟩ ?_
      focus (simp only [factsL, pickF, Det, and_true] at hf; (try simp only [putL, Act.put, List.setIfInBounds_toArray, List.set_cons_zero, List.set_cons_succ]); (try simp only [hf]); go_simp; refine (HB.out _).mono ?_; rintro _ w9 ⟨rfl, hbw⟩; exact ⟨_, rfl, hK.out _ _ hbw rfl⟩)
      refine And.intro ⟨[(10, 31), (7, 28)], by kernel_rfl, fun xs W hW hf K hK => opV_free rfl ?_⟩ ?_
      focus (have hs := hS W hW; (try simp only [factsL, pickF, Det, and_true] at hf); (try simp only [putL, Act.put, List.setIfInBounds_toArray, List.set_cons_zero, List.set_cons_succ]); (try simp only [hf]); go_simp; refine hK.out _ _ (Below.refl _ _) ?_; unfold Det; rfl)
      refine And.intro ⟨[(11, 32)], by kernel_rfl, fun xs W hW hf K hK => opV_free rfl ?_⟩ ?_
      focus (have hs := hS W hW; (try simp only [factsL, pickF, Det, and_true] at hf); (try simp only [putL, Act.put, List.setIfInBounds_toArray, List.set_cons_zero, List.set_cons_succ]); (try simp only [hf]); go_simp; refine hK.out _ _ (Below.refl _ _) ?_; unfold Det; rfl)
      refine And.intro ⟨[(12, 33), (6, 27), (0, 21)], by kernel_rfl, fun xs W hW hf K hK => opV_free rfl ?_⟩ ?_
      focus (have hs := hS W hW; (try simp only [factsL, pickF, Det, and_true] at hf); (try simp only [putL, Act.put, List.setIfInBounds_toArray, List.set_cons_zero, List.set_cons_succ]); (try simp only [hf]); go_simp; refine hK.out _ _ (Below.refl _ _) ?_; unfold Det; rfl)
      refine And.intro ⟨[], by kernel_rfl, fun xs W hW hf K hK => opV_free rfl ?_⟩ ?_
      focus (go_simp; exact hK.out _ _ ((Below.refl _ _).alloc (Nat.le_refl _) _) ⟨_, rfl, Blk.new _ _ _, hW.size⟩)
      trivial
    case hst => exact ⟨det_stays, det_stays, det_stays, det_stays, det_stays, det_stays, det_stays, det_stays, det_stays, det_stays, det_stays, det_stays, det_stays, det_stays, box_stays, noF_stays, trivial⟩
    case hend =>
      intro xs W hW hf
      simp only [factsA, Det, noF, Nat.zero_add, Nat.reduceAdd, and_true] at hf
      obtain ⟨f0, f1, f2, f3, f4, f5, f6, f7, f8, f9, f10, f11, f12, f13, b9, f14, hB, hz⟩ := hf
      refine opV_free rfl ?_
      (simp only [putL, Act.put, upd, List.setIfInBounds_toArray, List.set_cons_zero, List.set_cons_succ])
      simp only [f0, f1, f2, f3, f4, f5, f6, f7, f8, f9, f10, f11, f12, f13, f14]
      have hB0 := hB.free 0; have hB1 := hB.free 1; have hB2 := hB.free 2; have hB3 := hB.free 3
      have hC0 := hB.cell 0; have hC1 := hB.cell 1; have hC2 := hB.cell 2; have hC3 := hB.cell 3
      simp at hC0 hC1 hC2 hC3
      go_simp
      go_wp2_with fail
      go_meet
      exact ⟨b9, rfl, (((hW.setCell (p := ⟨b9, 0, none⟩) hz _).setCell (p := ⟨b9, 1, none⟩) hz _).setCell (p := ⟨b9, 2, none⟩) hz _).setCell (p := ⟨b9, 3, none⟩) hz _, hz, blk4 hB _ _ _ _⟩
  case rest =>
    obtain ⟨b9, rfl, HV, hz, G9⟩ := hcut
    rename World => W
    have g2v := g2.lt; have gzv := gz.lt; have g5v := g5.lt; have g6v := g6.lt
    have hw3 := bl2 hw HV.out
    obtain ⟨a0, a1, a2, b0, b1, b2⟩ := hS W HV.out
    have g2 := g2.below HV.out g2.lt
    have gz := gz.below HV.out gz.lt
    have hz2 : w.heap.size + 1 < b9 := by omega
    have g9 := G9.out
    have e1 := g9.cell 1; have c6 := g2.cell 6
    simp at e1 c6
    clear hS g5 g6 HV G9
    cases hL : (F2 - F1 == 13) with
    | false =>
      have HR : Hid (moonI ⟨d, p, f, m, y, s, l⟩ n = ⟨Y, M - F1 + 1, n - B + 1, false⟩) := (by rw [HX.out, hL]; rfl : moonI ⟨d, p, f, m, y, s, l⟩ n = _)
      clear HX
      go_upto_region 5 with fail
      (refine wp_region_ext (by kernel_rfl) (by kernel_rfl) ?_; (repeat (go_big_quiet_step((first | (go_at_call 69; with_reducible exact Calls.ext_of (HF2.out _)) | (go_at_call 69; with_reducible exact Calls.ext_of (HF1.out _)))))); with_reducible refine wpQuiet_nil ?_; intro w1 hw1; have hb1 := ext_below hw1; clear hw1)
      have hw3 := bl2 hw3 hb1
      have gz := gz.below hb1 gz.lt
      have g9 := g9.below hb1 g9.lt
      have g2 := g2.below hb1 g2.lt
      clear a0 a1 a2 b0 b1 b2 hb1 e1 c6
      have y0 := g9.cell 0; have y1 := g9.cell 1; have y2 := g9.cell 2; have y3 := g9.cell 3
      have z0 := gz.cell 0; have z1 := gz.cell 1; have z2 := gz.cell 2; have z3 := gz.cell 3
      have r0 := gz.free 0; have r1 := gz.free 1; have r2 := gz.free 2; have r3 := gz.free 3
      simp at y0 y1 y2 y3 z0 z1 z2 z3
      go_wp2_with fail
      have g3 := blk4 gz (.int .i64 Y) (.int .i64 (M - F1 + 1)) (.int .i64 (n - B + 1)) (.bool false)
      have hle3 : w.heap.size ≤ w.heap.size + 1 := by omega
      have hw4 := (((hw3.setCell (p := ⟨w.heap.size + 1, 0, none⟩) hle3 (.int .i64 Y)).setCell (p := ⟨w.heap.size + 1, 1, none⟩) hle3 (.int .i64 (M - F1 + 1))).setCell (p := ⟨w.heap.size + 1, 2, none⟩) hle3 (.int .i64 (n - B + 1))).setCell (p := ⟨w.heap.size + 1, 3, none⟩) hle3 (.bool false)
      generalize (((w1.setCell ⟨w.heap.size + 1, 0, none⟩ (.int .i64 Y)).setCell ⟨w.heap.size + 1, 1, none⟩ (.int .i64 (M - F1 + 1))).setCell ⟨w.heap.size + 1, 2, none⟩ (.int .i64 (n - B + 1))).setCell ⟨w.heap.size + 1, 3, none⟩ (.bool false) = W3 at g3 hw4 ⊢
      have q0 := g3.cell 0; have q1 := g3.cell 1; have q2 := g3.cell 2; have q3 := g3.cell 3
      simp at q0 q1 q2 q3
      refine bodyPost_ret (v := .agg #[.int .i64 Y, .int .i64 (M - F1 + 1), .int .i64 (n - B + 1), .bool false]) (by simp [results, Tryz.results42, go_sem, q0, q1, q2, q3]) rfl ?_
      exact ⟨by rw [HR.out], hw4⟩
    | true =>
      cases hG : decide (l < M - F1 + 1) with
      | false =>
        have HR : Hid (moonI ⟨d, p, f, m, y, s, l⟩ n = ⟨Y, M - F1 + 1, n - B + 1, false⟩) := (by rw [HX.out, hL, hG]; rfl : moonI ⟨d, p, f, m, y, s, l⟩ n = _)
        clear HX
        go_upto_region 5 with fail
        (refine wp_region_ext (by kernel_rfl) (by kernel_rfl) ?_; (repeat (go_big_quiet_step((first | (go_at_call 69; with_reducible exact Calls.ext_of (HF2.out _)) | (go_at_call 69; with_reducible exact Calls.ext_of (HF1.out _)))))); with_reducible refine wpQuiet_nil ?_; intro w1 hw1; have hb1 := ext_below hw1; clear hw1)
        have hw3 := bl2 hw3 hb1
        have gz := gz.below hb1 gz.lt
        have g9 := g9.below hb1 g9.lt
        have g2 := g2.below hb1 g2.lt
        clear a0 a1 a2 b0 b1 b2 hb1 e1 c6
        have y0 := g9.cell 0; have y1 := g9.cell 1; have y2 := g9.cell 2; have y3 := g9.cell 3
        have z0 := gz.cell 0; have z1 := gz.cell 1; have z2 := gz.cell 2; have z3 := gz.cell 3
        have r0 := gz.free 0; have r1 := gz.free 1; have r2 := gz.free 2; have r3 := gz.free 3
        simp at y0 y1 y2 y3 z0 z1 z2 z3
        go_wp2_with fail
        have g3 := blk4 gz (.int .i64 Y) (.int .i64 (M - F1 + 1)) (.int .i64 (n - B + 1)) (.bool false)
        have hle3 : w.heap.size ≤ w.heap.size + 1 := by omega
        have hw4 := (((hw3.setCell (p := ⟨w.heap.size + 1, 0, none⟩) hle3 (.int .i64 Y)).setCell (p := ⟨w.heap.size + 1, 1, none⟩) hle3 (.int .i64 (M - F1 + 1))).setCell (p := ⟨w.heap.size + 1, 2, none⟩) hle3 (.int .i64 (n - B + 1))).setCell (p := ⟨w.heap.size + 1, 3, none⟩) hle3 (.bool false)
        generalize (((w1.setCell ⟨w.heap.size + 1, 0, none⟩ (.int .i64 Y)).setCell ⟨w.heap.size + 1, 1, none⟩ (.int .i64 (M - F1 + 1))).setCell ⟨w.heap.size + 1, 2, none⟩ (.int .i64 (n - B + 1))).setCell ⟨w.heap.size + 1, 3, none⟩ (.bool false) = W3 at g3 hw4 ⊢
        have q0 := g3.cell 0; have q1 := g3.cell 1; have q2 := g3.cell 2; have q3 := g3.cell 3
        simp at q0 q1 q2 q3
        refine bodyPost_ret (v := .agg #[.int .i64 Y, .int .i64 (M - F1 + 1), .int .i64 (n - B + 1), .bool false]) (by simp [results, Tryz.results42, go_sem, q0, q1, q2, q3]) rfl ?_
        exact ⟨by rw [HR.out], hw4⟩
      | true =>
        have HR : Hid (moonI ⟨d, p, f, m, y, s, l⟩ n = ⟨Y, M - F1 + 1 - 1, n - B + 1, M - F1 + 1 == l + 1⟩) := (by rw [HX.out, hL, hG]; rfl : moonI ⟨d, p, f, m, y, s, l⟩ n = _)
        clear HX
        go_upto_region 5 with fail
        (refine wp_region_ext (by kernel_rfl) (by kernel_rfl) ?_; (repeat (go_big_quiet_step((first | (go_at_call 69; with_reducible exact Calls.ext_of (HF2.out _)) | (go_at_call 69; with_reducible exact Calls.ext_of (HF1.out _)))))); with_reducible refine wpQuiet_nil ?_; intro w1 hw1; have hb1 := ext_below hw1; clear hw1)
        have hw3 := bl2 hw3 hb1
        have gz := gz.below hb1 gz.lt
        have g9 := g9.below hb1 g9.lt
        have g2 := g2.below hb1 g2.lt
        clear a0 a1 a2 b0 b1 b2 hb1 e1 c6
        have e3 := g9.cell 3; have x3 := g9.free 3; have x1 := g9.free 1
        have e1 := g9.cell 1; have c6 := g2.cell 6
        simp at e1 e3 c6
        go_upto_region 8 with fail
        refine gen_w (fun W => Blk W b9 #[.int .i64 Y, .int .i64 (M - F1 + 1 - 1), .int .i64 (n - B + 1), .bool (M - F1 + 1 == l + 1)] 59 ∧ Blk W (w.heap.size + 1) #[.int .i64 0, .int .i64 0, .int .i64 0, .bool false] 59 ∧ Below w.heap.size w W) ⟨by have h := (g9.set 3 (.bool (M - F1 + 1 == l + 1))).set 1 (.int .i64 (M - F1 + 1 - 1)); simpa using h, (gz.far ⟨b9, 3, none⟩ (by show w.heap.size + 1 ≠ b9; omega) _).far ⟨b9, 1, none⟩ (by show w.heap.size + 1 ≠ b9; omega) _, (hw3.setCell (p := ⟨b9, 3, none⟩) (by show w.heap.size ≤ b9; omega) _).setCell (p := ⟨b9, 1, none⟩) (by show w.heap.size ≤ b9; omega) _⟩ ?_
        clear g9 gz hw3 e1 e3 x1 x3 c6 g2
        clear w1
        rintro w1 ⟨g9, gz, hw3⟩
        obtain ⟨mq, hmq⟩ : ∃ q, q = M - F1 + 1 - 1 := ⟨_, rfl⟩
        obtain ⟨bq, hbq⟩ : ∃ q, q = (M - F1 + 1 == l + 1) := ⟨_, rfl⟩
        rw [← hmq, ← hbq] at g9 HR
        clear hmq hbq hL hG v1 v2 v7 v8
        have y0 := g9.cell 0; have y1 := g9.cell 1; have y2 := g9.cell 2; have y3 := g9.cell 3
        have z0 := gz.cell 0; have z1 := gz.cell 1; have z2 := gz.cell 2; have z3 := gz.cell 3
        have r0 := gz.free 0; have r1 := gz.free 1; have r2 := gz.free 2; have r3 := gz.free 3
        simp at y0 y1 y2 y3 z0 z1 z2 z3
        go_wp2_with fail
        have g3 := blk4 gz (.int .i64 Y) (.int .i64 (mq)) (.int .i64 (n - B + 1)) (.bool bq)
        have hle3 : w.heap.size ≤ w.heap.size + 1 := by omega
        have hw4 := (((hw3.setCell (p := ⟨w.heap.size + 1, 0, none⟩) hle3 (.int .i64 Y)).setCell (p := ⟨w.heap.size + 1, 1, none⟩) hle3 (.int .i64 (mq))).setCell (p := ⟨w.heap.size + 1, 2, none⟩) hle3 (.int .i64 (n - B + 1))).setCell (p := ⟨w.heap.size + 1, 3, none⟩) hle3 (.bool bq)
        generalize (((w1.setCell ⟨w.heap.size + 1, 0, none⟩ (.int .i64 Y)).setCell ⟨w.heap.size + 1, 1, none⟩ (.int .i64 (mq))).setCell ⟨w.heap.size + 1, 2, none⟩ (.int .i64 (n - B + 1))).setCell ⟨w.heap.size + 1, 3, none⟩ (.bool bq) = W3 at g3 hw4 ⊢
        have q0 := g3.cell 0; have q1 := g3.cell 1; have q2 := g3.cell 2; have q3 := g3.cell 3
        simp at q0 q1 q2 q3
        refine bodyPost_ret (v := .agg #[.int .i64 Y, .int .i64 (mq), .int .i64 (n - B + 1), .bool bq]) (by simp [results, Tryz.results42, go_sem, q0, q1, q2, q3]) rfl ?_
        exact ⟨by rw [HR.out], hw4⟩
theorem isLunar_val {d p f m y s l : Int} {v : Bool} (h : lunB ⟨d, p, f, m, y, s, l⟩ = v) (w : World) : Calls Tryz.prog 41 #[.agg #[.int .i64 d, .int .i64 p, .int .i64 f, .int .i64 m, .int .i64 y, .int .i64 s, .int .i64 l]] w fun en w' => en = .returned (.bool v) ∧ Below w.heap.size w w' := h ▸ isLunar_any d p f m y s l w
/-- the date of a day by the moon, or the error -/
def lunarR (r : Lun) (d : Int) : LDate × Int := if lunB r then (if inB d 0 1000000 then (moonI r d, 0) else (⟨0, 0, 0, false⟩, 3)) else (⟨0, 0, 0, false⟩, 2)
set_option maxRecDepth 100000 in
set_option maxHeartbeats 4000000 in
theorem lunarF_any (d p f m y s l n : Int) (w : World) : Calls Tryz.prog 17 #[.agg #[.int .i64 d, .int .i64 p, .int .i64 f, .int .i64 m, .int .i64 y, .int .i64 s, .int .i64 l], .int .i64 n] w fun en w' => en = .returned (.tuple #[.agg #[.int .i64 (lunarR ⟨d, p, f, m, y, s, l⟩ n).1.y, .int .i64 (lunarR ⟨d, p, f, m, y, s, l⟩ n).1.m, .int .i64 (lunarR ⟨d, p, f, m, y, s, l⟩ n).1.d, .bool (lunarR ⟨d, p, f, m, y, s, l⟩ n).1.k], .int .i64 (lunarR ⟨d, p, f, m, y, s, l⟩ n).2]) ∧ Below w.heap.size w w' := by
  cases hs : lunB ⟨d, p, f, m, y, s, l⟩ with
  | false =>
    have HSV := Lib.hid (fun W => isLunar_val hs W)
    have HT : Hid (lunarR ⟨d, p, f, m, y, s, l⟩ n = (⟨0, 0, 0, false⟩, 2)) := (by simp [lunarR, hs] : lunarR ⟨d, p, f, m, y, s, l⟩ n = _)
    clear hs
    go_enter Tryz.func17, Tryz.ntmps17
    go_upto_region 2 with (go_at_call 41; refine (HSV.out _).mono ?_; rintro _ V1 ⟨rfl, hb1⟩)
    refine gen_w (fun W => Blk W (w.heap.size + 1) #[.int .i64 0, .int .i64 0, .int .i64 0, .bool false] 59 ∧ Below w.heap.size w W) ⟨(Blk.at_ (by simp)).below hb1 (by first | omega | (simp; omega) | (simp; done)), bl2 (by (repeat (first | exact Below.refl _ _ | assumption | (refine Below.alloc ?_ (by first | omega | (simp; omega) | (simp; done)) _) | (refine Below.setCell ?_ (by first | omega | (simp; omega) | (simp; done)) _) | (refine Below.drew ?_) | (refine belowN ?_ _) | (refine Below.trans ?_ (Below.mono ‹Below _ _ _› (by first | omega | (simp; omega) | (simp; done))))))) hb1⟩ ?_
    clear hb1
    rintro V ⟨gz, hw⟩
    have g3 := blk4 gz (.int .i64 0) (.int .i64 0) (.int .i64 0) (.bool false)
    have hle3 : w.heap.size ≤ w.heap.size + 1 := by omega
    have hw3 := (((hw.setCell (p := ⟨w.heap.size + 1, 0, none⟩) hle3 (.int .i64 0)).setCell (p := ⟨w.heap.size + 1, 1, none⟩) hle3 (.int .i64 0)).setCell (p := ⟨w.heap.size + 1, 2, none⟩) hle3 (.int .i64 0)).setCell (p := ⟨w.heap.size + 1, 3, none⟩) hle3 (.bool false)
    have z0 := gz.cell 0; have z1 := gz.cell 1; have z2 := gz.cell 2; have z3 := gz.cell 3
    have f0 := gz.free 0; have f1 := gz.free 1; have f2 := gz.free 2; have f3 := gz.free 3
    simp at z0 z1 z2 z3
    go_wp2_with fail
    generalize (((V.setCell ⟨w.heap.size + 1, 0, none⟩ (.int .i64 0)).setCell ⟨w.heap.size + 1, 1, none⟩ (.int .i64 0)).setCell ⟨w.heap.size + 1, 2, none⟩ (.int .i64 0)).setCell ⟨w.heap.size + 1, 3, none⟩ (.bool false) = W3 at g3 hw3 ⊢
    have q0 := g3.cell 0; have q1 := g3.cell 1; have q2 := g3.cell 2; have q3 := g3.cell 3
    simp at q0 q1 q2 q3
    refine bodyPost_ret (v := .tuple #[.agg #[.int .i64 0, .int .i64 0, .int .i64 0, .bool false], .int .i64 2]) (by simp [results, Tryz.results17, go_sem, q0, q1, q2, q3]) rfl ?_
    rw [HT.out]
    exact ⟨rfl, hw3⟩
  | true =>
    have HSV := Lib.hid (fun W => isLunar_val hs W)
    have ok := lunB_iff.1 hs
    cases hd : inB n 0 1000000 with
    | false =>
      have HDV := Lib.hid (fun W => isDay_val hd W)
      have HT : Hid (lunarR ⟨d, p, f, m, y, s, l⟩ n = (⟨0, 0, 0, false⟩, 3)) := (by simp [lunarR, hs, hd] : lunarR ⟨d, p, f, m, y, s, l⟩ n = _)
      clear hs hd
      go_enter Tryz.func17, Tryz.ntmps17
      go_upto_region 4 with (first | (go_at_call 41; refine (HSV.out _).mono ?_; rintro _ V1 ⟨rfl, hb1⟩) | (go_at_call 36; refine (HDV.out _).mono ?_; rintro _ _ ⟨rfl, rfl⟩))
      refine gen_w (fun W => Blk W (w.heap.size + 1) #[.int .i64 0, .int .i64 0, .int .i64 0, .bool false] 59 ∧ Below w.heap.size w W) ⟨(Blk.at_ (by simp)).below hb1 (by first | omega | (simp; omega) | (simp; done)), bl2 (by (repeat (first | exact Below.refl _ _ | assumption | (refine Below.alloc ?_ (by first | omega | (simp; omega) | (simp; done)) _) | (refine Below.setCell ?_ (by first | omega | (simp; omega) | (simp; done)) _) | (refine Below.drew ?_) | (refine belowN ?_ _) | (refine Below.trans ?_ (Below.mono ‹Below _ _ _› (by first | omega | (simp; omega) | (simp; done))))))) hb1⟩ ?_
      clear hb1
      rintro V ⟨gz, hw⟩
      have g3 := blk4 gz (.int .i64 0) (.int .i64 0) (.int .i64 0) (.bool false)
      have hle3 : w.heap.size ≤ w.heap.size + 1 := by omega
      have hw3 := (((hw.setCell (p := ⟨w.heap.size + 1, 0, none⟩) hle3 (.int .i64 0)).setCell (p := ⟨w.heap.size + 1, 1, none⟩) hle3 (.int .i64 0)).setCell (p := ⟨w.heap.size + 1, 2, none⟩) hle3 (.int .i64 0)).setCell (p := ⟨w.heap.size + 1, 3, none⟩) hle3 (.bool false)
      have z0 := gz.cell 0; have z1 := gz.cell 1; have z2 := gz.cell 2; have z3 := gz.cell 3
      have f0 := gz.free 0; have f1 := gz.free 1; have f2 := gz.free 2; have f3 := gz.free 3
      simp at z0 z1 z2 z3
      go_wp2_with fail
      generalize (((V.setCell ⟨w.heap.size + 1, 0, none⟩ (.int .i64 0)).setCell ⟨w.heap.size + 1, 1, none⟩ (.int .i64 0)).setCell ⟨w.heap.size + 1, 2, none⟩ (.int .i64 0)).setCell ⟨w.heap.size + 1, 3, none⟩ (.bool false) = W3 at g3 hw3 ⊢
      have q0 := g3.cell 0; have q1 := g3.cell 1; have q2 := g3.cell 2; have q3 := g3.cell 3
      simp at q0 q1 q2 q3
      refine bodyPost_ret (v := .tuple #[.agg #[.int .i64 0, .int .i64 0, .int .i64 0, .bool false], .int .i64 3]) (by simp [results, Tryz.results17, go_sem, q0, q1, q2, q3]) rfl ?_
      rw [HT.out]
      exact ⟨rfl, hw3⟩
    | true =>
      have HDV := Lib.hid (fun W => isDay_val hd W)
      obtain ⟨d0, d1⟩ := inB_iff.1 hd
      have HT : Hid (lunarR ⟨d, p, f, m, y, s, l⟩ n = (moonI ⟨d, p, f, m, y, s, l⟩ n, 0)) := (by simp [lunarR, hs, hd] : lunarR ⟨d, p, f, m, y, s, l⟩ n = _)
      have HX := Lib.hid (fun W => lunar_any d p f m y s l n W ok d0 (by omega))
      obtain ⟨x, hx⟩ : ∃ x, x = moonI ⟨d, p, f, m, y, s, l⟩ n := ⟨_, rfl⟩
      rw [← hx] at HT HX
      obtain ⟨xy, xm, xd, xk⟩ := x
      clear hs hd hx
      go_enter Tryz.func17, Tryz.ntmps17
      go_upto_region 5 with (first | (go_at_call 41; refine (HSV.out _).mono ?_; rintro _ V1 ⟨rfl, hb1⟩; have gr : Blk V1 w.heap.size #[.int .i64 d, .int .i64 p, .int .i64 f, .int .i64 m, .int .i64 y, .int .i64 s, .int .i64 l] 26 := ((Blk.at_ rfl).alloc _).below hb1 (by first | omega | (simp; omega) | (simp; done)); have c0 := gr.cell 0; have c1 := gr.cell 1; have c2 := gr.cell 2; have c3 := gr.cell 3; have c4 := gr.cell 4; have c5 := gr.cell 5; have c6 := gr.cell 6; simp at c0 c1 c2 c3 c4 c5 c6) | (go_at_call 36; refine (HDV.out _).mono ?_; rintro _ _ ⟨rfl, rfl⟩))
      go_wp2_with (go_at_call 42; refine (HX.out _).mono ?_; rintro _ V ⟨rfl, hb2⟩; refine Hid.out ?_)
      have gz : Blk V (w.heap.size + 1) #[.int .i64 0, .int .i64 0, .int .i64 0, .bool false] 59 := ((Blk.at_ (by simp)).below hb1 (by first | omega | (simp; omega) | (simp; done))).below hb2 (by have := hb1.size; simp at this; omega)
      have hw : Below w.heap.size w V := bl2 (bl2 (by (repeat (first | exact Below.refl _ _ | assumption | (refine Below.alloc ?_ (by first | omega | (simp; omega) | (simp; done)) _) | (refine Below.setCell ?_ (by first | omega | (simp; omega) | (simp; done)) _) | (refine Below.drew ?_) | (refine belowN ?_ _) | (refine Below.trans ?_ (Below.mono ‹Below _ _ _› (by first | omega | (simp; omega) | (simp; done))))))) hb1) hb2
      clear hb1 hb2 c0 c1 c2 c3 c4 c5 c6 gr
      refine Lib.hid ?_
      have g3 := blk4 gz (.int .i64 xy) (.int .i64 xm) (.int .i64 xd) (.bool xk)
      have hle3 : w.heap.size ≤ w.heap.size + 1 := by omega
      have hw3 := (((hw.setCell (p := ⟨w.heap.size + 1, 0, none⟩) hle3 (.int .i64 xy)).setCell (p := ⟨w.heap.size + 1, 1, none⟩) hle3 (.int .i64 xm)).setCell (p := ⟨w.heap.size + 1, 2, none⟩) hle3 (.int .i64 xd)).setCell (p := ⟨w.heap.size + 1, 3, none⟩) hle3 (.bool xk)
      have z0 := gz.cell 0; have z1 := gz.cell 1; have z2 := gz.cell 2; have z3 := gz.cell 3
      have f0 := gz.free 0; have f1 := gz.free 1; have f2 := gz.free 2; have f3 := gz.free 3
      simp at z0 z1 z2 z3
      go_wp2_with fail
      generalize (((V.setCell ⟨w.heap.size + 1, 0, none⟩ (.int .i64 xy)).setCell ⟨w.heap.size + 1, 1, none⟩ (.int .i64 xm)).setCell ⟨w.heap.size + 1, 2, none⟩ (.int .i64 xd)).setCell ⟨w.heap.size + 1, 3, none⟩ (.bool xk) = W3 at g3 hw3 ⊢
      have q0 := g3.cell 0; have q1 := g3.cell 1; have q2 := g3.cell 2; have q3 := g3.cell 3
      simp at q0 q1 q2 q3
      refine bodyPost_ret (v := .tuple #[.agg #[.int .i64 xy, .int .i64 xm, .int .i64 xd, .bool xk], .int .i64 0]) (by simp [results, Tryz.results17, go_sem, q0, q1, q2, q3]) rfl ?_
      rw [HT.out]
      exact ⟨rfl, hw3⟩
end Go.Proofs.YtfbnllmmoaialaaGreat

/- almanac: Solar, SolarDay. -/
import Derived.Test.YtfbnllmmoaialaaGreatZ05Af
namespace Go.Proofs.YtfbnllmmoaialaaGreat
open Go.RowKit

theorem isDay_val {n : Int} {v : Bool} (h : inB n 0 1000000 = v) (w : World) : Calls Tryz.prog 36 #[.int .i64 n] w fun e w' => e = .returned (.bool v) ∧ w = w' := h ▸ isDay_any n w
theorem isSolar_val {e b u : Int} {v : Bool} (h : solB ⟨e, b, u⟩ = v) (w : World) : Calls Tryz.prog 39 #[.agg #[.int .i64 e, .int .i64 b, .int .i64 u]] w fun en w' => en = .returned (.bool v) ∧ Below w.heap.size w w' := h ▸ isSolar_any e b u w
/-- the date of a day, or the error -/
def solarR (r : Sol) (d : Int) : SDate × Int := if solB r then (if inB d 0 1000000 then (solI r d, 0) else (⟨0, 0, 0⟩, 3)) else (⟨0, 0, 0⟩, 2)
set_option maxRecDepth 100000 in
set_option maxHeartbeats 4000000 in
theorem solarF_any (e b u d : Int) (w : World) : Calls Tryz.prog 15 #[.agg #[.int .i64 e, .int .i64 b, .int .i64 u], .int .i64 d] w fun en w' => en = .returned (.tuple #[.agg #[.int .i64 (solarR ⟨e, b, u⟩ d).1.y, .int .i64 (solarR ⟨e, b, u⟩ d).1.m, .int .i64 (solarR ⟨e, b, u⟩ d).1.d], .int .i64 (solarR ⟨e, b, u⟩ d).2]) ∧ Below w.heap.size w w' := by
  cases hs : solB ⟨e, b, u⟩ with
  | false =>
    have HSV := Lib.hid (fun W => isSolar_val hs W)
    have HT : Hid (solarR ⟨e, b, u⟩ d = (⟨0, 0, 0⟩, 2)) := (by simp [solarR, hs] : solarR ⟨e, b, u⟩ d = _)
    clear hs
    go_enter Tryz.func15, Tryz.ntmps15
    go_upto_region 2 with (go_at_call 39; refine (HSV.out _).mono ?_; rintro _ V1 ⟨rfl, hb1⟩)
    refine gen_w (fun W => Blk W (w.heap.size + 1) #[.int .i64 0, .int .i64 0, .int .i64 0] 54 ∧ Below w.heap.size w W) ⟨(Blk.at_ (by simp)).below hb1 (by simp), bl2 (by (repeat (first | exact Below.refl _ _ | assumption | (refine Below.alloc ?_ (by first | omega | (simp; omega) | (simp; done)) _) | (refine Below.setCell ?_ (by first | omega | (simp; omega) | (simp; done)) _) | (refine Below.drew ?_) | (refine belowN ?_ _) | (refine Below.trans ?_ (Below.mono ‹Below _ _ _› (by first | omega | (simp; omega) | (simp; done))))))) hb1⟩ ?_
    clear hb1
    rintro V ⟨gz, hw⟩
    have g3 := blk3 gz (.int .i64 0) (.int .i64 0) (.int .i64 0)
    have hle3 : w.heap.size ≤ w.heap.size + 1 := by omega
    have hw3 := ((hw.setCell (p := ⟨w.heap.size + 1, 0, none⟩) hle3 (.int .i64 0)).setCell (p := ⟨w.heap.size + 1, 1, none⟩) hle3 (.int .i64 0)).setCell (p := ⟨w.heap.size + 1, 2, none⟩) hle3 (.int .i64 0)
    have z0 := gz.cell 0; have z1 := gz.cell 1; have z2 := gz.cell 2
    have f0 := gz.free 0; have f1 := gz.free 1; have f2 := gz.free 2
    simp at z0 z1 z2
    go_wp2_with fail
    generalize ((V.setCell ⟨w.heap.size + 1, 0, none⟩ (.int .i64 0)).setCell ⟨w.heap.size + 1, 1, none⟩ (.int .i64 0)).setCell ⟨w.heap.size + 1, 2, none⟩ (.int .i64 0) = W3 at g3 hw3 ⊢
    have q0 := g3.cell 0; have q1 := g3.cell 1; have q2 := g3.cell 2
    simp at q0 q1 q2
    refine bodyPost_ret (v := .tuple #[.agg #[.int .i64 0, .int .i64 0, .int .i64 0], .int .i64 2]) (by simp [results, Tryz.results15, go_sem, q0, q1, q2]) rfl ?_
    rw [HT.out]
    exact ⟨rfl, hw3⟩
  | true =>
    have HSV := Lib.hid (fun W => isSolar_val hs W)
    have ok := solB_iff.1 hs
    cases hd : inB d 0 1000000 with
    | false =>
      have HDV := Lib.hid (fun W => isDay_val hd W)
      have HT : Hid (solarR ⟨e, b, u⟩ d = (⟨0, 0, 0⟩, 3)) := (by simp [solarR, hs, hd] : solarR ⟨e, b, u⟩ d = _)
      clear hs hd
      go_enter Tryz.func15, Tryz.ntmps15
      go_upto_region 4 with (first | (go_at_call 39; refine (HSV.out _).mono ?_; rintro _ V1 ⟨rfl, hb1⟩) | (go_at_call 36; refine (HDV.out _).mono ?_; rintro _ _ ⟨rfl, rfl⟩))
      refine gen_w (fun W => Blk W (w.heap.size + 1) #[.int .i64 0, .int .i64 0, .int .i64 0] 54 ∧ Below w.heap.size w W) ⟨(Blk.at_ (by simp)).below hb1 (by simp), bl2 (by (repeat (first | exact Below.refl _ _ | assumption | (refine Below.alloc ?_ (by first | omega | (simp; omega) | (simp; done)) _) | (refine Below.setCell ?_ (by first | omega | (simp; omega) | (simp; done)) _) | (refine Below.drew ?_) | (refine belowN ?_ _) | (refine Below.trans ?_ (Below.mono ‹Below _ _ _› (by first | omega | (simp; omega) | (simp; done))))))) hb1⟩ ?_
      clear hb1
      rintro V ⟨gz, hw⟩
      have g3 := blk3 gz (.int .i64 0) (.int .i64 0) (.int .i64 0)
      have hle3 : w.heap.size ≤ w.heap.size + 1 := by omega
      have hw3 := ((hw.setCell (p := ⟨w.heap.size + 1, 0, none⟩) hle3 (.int .i64 0)).setCell (p := ⟨w.heap.size + 1, 1, none⟩) hle3 (.int .i64 0)).setCell (p := ⟨w.heap.size + 1, 2, none⟩) hle3 (.int .i64 0)
      have z0 := gz.cell 0; have z1 := gz.cell 1; have z2 := gz.cell 2
      have f0 := gz.free 0; have f1 := gz.free 1; have f2 := gz.free 2
      simp at z0 z1 z2
      go_wp2_with fail
      generalize ((V.setCell ⟨w.heap.size + 1, 0, none⟩ (.int .i64 0)).setCell ⟨w.heap.size + 1, 1, none⟩ (.int .i64 0)).setCell ⟨w.heap.size + 1, 2, none⟩ (.int .i64 0) = W3 at g3 hw3 ⊢
      have q0 := g3.cell 0; have q1 := g3.cell 1; have q2 := g3.cell 2
      simp at q0 q1 q2
      refine bodyPost_ret (v := .tuple #[.agg #[.int .i64 0, .int .i64 0, .int .i64 0], .int .i64 3]) (by simp [results, Tryz.results15, go_sem, q0, q1, q2]) rfl ?_
      rw [HT.out]
      exact ⟨rfl, hw3⟩
    | true =>
      have HDV := Lib.hid (fun W => isDay_val hd W)
      obtain ⟨d0, d1⟩ := inB_iff.1 hd
      have HT : Hid (solarR ⟨e, b, u⟩ d = (solI ⟨e, b, u⟩ d, 0)) := (by simp [solarR, hs, hd] : solarR ⟨e, b, u⟩ d = _)
      have HX := Lib.hid (fun W => solar_any e b u d W ok d0 d1)
      obtain ⟨x, hx⟩ : ∃ x, x = solI ⟨e, b, u⟩ d := ⟨_, rfl⟩
      rw [← hx] at HT HX
      obtain ⟨xy, xm, xd⟩ := x
      clear hs hd hx
      go_enter Tryz.func15, Tryz.ntmps15
      go_upto_region 5 with (first | (go_at_call 39; refine (HSV.out _).mono ?_; rintro _ V1 ⟨rfl, hb1⟩; have gr : Blk V1 w.heap.size #[.int .i64 e, .int .i64 b, .int .i64 u] 24 := ((Blk.at_ rfl).alloc _).below hb1 (by first | omega | (simp; omega) | (simp; done)); have c0 := gr.cell 0; have c1 := gr.cell 1; have c2 := gr.cell 2; simp at c0 c1 c2) | (go_at_call 36; refine (HDV.out _).mono ?_; rintro _ _ ⟨rfl, rfl⟩))
      go_wp2_with (go_at_call 40; refine (HX.out _).mono ?_; rintro _ V ⟨rfl, hb2⟩; refine Hid.out ?_)
      have gz : Blk V (w.heap.size + 1) #[.int .i64 0, .int .i64 0, .int .i64 0] 54 := ((Blk.at_ (by simp)).below hb1 (by simp)).below hb2 (by have := hb1.size; simp at this; omega)
      have hw : Below w.heap.size w V := bl2 (bl2 (by (repeat (first | exact Below.refl _ _ | assumption | (refine Below.alloc ?_ (by first | omega | (simp; omega) | (simp; done)) _) | (refine Below.setCell ?_ (by first | omega | (simp; omega) | (simp; done)) _) | (refine Below.drew ?_) | (refine belowN ?_ _) | (refine Below.trans ?_ (Below.mono ‹Below _ _ _› (by first | omega | (simp; omega) | (simp; done))))))) hb1) hb2
      clear hb1 hb2 c0 c1 c2 gr
      refine Lib.hid ?_
      have g3 := blk3 gz (.int .i64 xy) (.int .i64 xm) (.int .i64 xd)
      have hle3 : w.heap.size ≤ w.heap.size + 1 := by omega
      have hw3 := ((hw.setCell (p := ⟨w.heap.size + 1, 0, none⟩) hle3 (.int .i64 xy)).setCell (p := ⟨w.heap.size + 1, 1, none⟩) hle3 (.int .i64 xm)).setCell (p := ⟨w.heap.size + 1, 2, none⟩) hle3 (.int .i64 xd)
      have z0 := gz.cell 0; have z1 := gz.cell 1; have z2 := gz.cell 2
      have f0 := gz.free 0; have f1 := gz.free 1; have f2 := gz.free 2
      simp at z0 z1 z2
      go_wp2_with fail
      generalize ((V.setCell ⟨w.heap.size + 1, 0, none⟩ (.int .i64 xy)).setCell ⟨w.heap.size + 1, 1, none⟩ (.int .i64 xm)).setCell ⟨w.heap.size + 1, 2, none⟩ (.int .i64 xd) = W3 at g3 hw3 ⊢
      have q0 := g3.cell 0; have q1 := g3.cell 1; have q2 := g3.cell 2
      simp at q0 q1 q2
      refine bodyPost_ret (v := .tuple #[.agg #[.int .i64 xy, .int .i64 xm, .int .i64 xd], .int .i64 0]) (by simp [results, Tryz.results15, go_sem, q0, q1, q2]) rfl ?_
      rw [HT.out]
      exact ⟨rfl, hw3⟩
/-- the day of a date, or the error -/
def dayR (r : Sol) (x : SDate) : Int × Int :=
  if solB r then (if inB x.y 0 4000 then (if inB x.m 1 12 then
    (if inB x.d 1 ((monL (extraN r x.y)).getD (x.m - 1).toNat 0) then
      (if inB (begI r x.y + x.d - 1 + sumL ((monL (extraN r x.y)).take (x.m - 1).toNat)) 0 1000000 then (begI r x.y + x.d - 1 + sumL ((monL (extraN r x.y)).take (x.m - 1).toNat), 0) else (0, 3))
    else (0, 7)) else (0, 7)) else (0, 3)) else (0, 2)
theorem slice_mon (b : Nat) : ∀ (k : Nat) (_ : k < 12) (w : World), (Instr.sliceAt 104 (.pointer (some ⟨b, 0, none⟩)) none (some (.int .i64 k)) none).run Tryz.prog w = .ok (.slice (some ⟨b, 0, none⟩) k 12) w
  | 0, _, _ => by kernel_rfl
  | 1, _, _ => by kernel_rfl
  | 2, _, _ => by kernel_rfl
  | 3, _, _ => by kernel_rfl
  | 4, _, _ => by kernel_rfl
  | 5, _, _ => by kernel_rfl
  | 6, _, _ => by kernel_rfl
  | 7, _, _ => by kernel_rfl
  | 8, _, _ => by kernel_rfl
  | 9, _, _ => by kernel_rfl
  | 10, _, _ => by kernel_rfl
  | 11, _, _ => by kernel_rfl
theorem mon_at (X : Int) {k : Nat} (hk : k < 12) : (monL X).getD k 0 = (monL X)[k]'hk := by
  rw [List.getD_eq_getElem?_getD, List.getElem?_eq_getElem (show k < (monL X).length from hk)]; rfl
theorem extra_bd {r : Sol} (ok : SolOk r) {y : Int} (y0 : 0 ≤ y) : extraN r y = 0 ∨ extraN r y = 1 := by
  have h4 := begI_step ok y0
  have h5 := yearN_bd r y
  unfold extraN; omega
theorem sum_mon {X : Int} (hx : X = 0 ∨ X = 1) : ∀ k, 0 ≤ sumL ((monL X).take k) ∧ sumL ((monL X).take k) ≤ 366 := fun k => by
  have h := sumL_take_le (l := monL X) (fun x hx' => by simp [monL] at hx'; omega) k
  have : sumL (monL X) ≤ 366 := by rcases hx with rfl | rfl <;> decide
  omega
end Go.Proofs.YtfbnllmmoaialaaGreat

/- almanac: Solar, SolarDay. -/
import Derived.Test.YtfbnllmmoaialaaB05Af
namespace Go.Proofs.Ytfbnllmmoaialaa
open Go.RowKit

theorem isDay_val {n : Int} {v : Bool} (h : inB n 0 1000000 = v) (w : World) : Calls Try.prog 68 #[.int .i64 n] w fun e w' => e = .returned (.bool v) ∧ w = w' := h ▸ isDay_any n w
theorem isYear_val {n : Int} {v : Bool} (h : inB n 0 4000 = v) (w : World) : Calls Try.prog 79 #[.int .i64 n] w fun e w' => e = .returned (.bool v) ∧ w = w' := h ▸ isYear_any n w
theorem isSolar_val {e b u : Int} {v : Bool} (h : solB ⟨e, b, u⟩ = v) (w : World) : Calls Try.prog 72 #[.agg #[.int .i64 e, .int .i64 b, .int .i64 u]] w fun en w' => en = .returned (.bool v) ∧ Below w.heap.size w w' := h ▸ isSolar_any e b u w
/-- the date of a day, or the error -/
def solarR (r : Sol) (d : Int) : SDate × Int := if solB r then (if inB d 0 1000000 then (solI r d, 0) else (⟨0, 0, 0⟩, 3)) else (⟨0, 0, 0⟩, 2)
set_option maxRecDepth 100000 in
set_option maxHeartbeats 4000000 in
theorem solarF_any (e b u d : Int) (w : World) : Calls Try.prog 41 #[.agg #[.int .i64 e, .int .i64 b, .int .i64 u], .int .i64 d] w fun en w' => en = .returned (.tuple #[.agg #[.int .i64 (solarR ⟨e, b, u⟩ d).1.y, .int .i64 (solarR ⟨e, b, u⟩ d).1.m, .int .i64 (solarR ⟨e, b, u⟩ d).1.d], .int .i64 (solarR ⟨e, b, u⟩ d).2]) ∧ Below w.heap.size w w' := by
  cases hs : solB ⟨e, b, u⟩ with
  | false =>
    have HSV := Lib.hid (fun W => isSolar_val hs W)
    have HT : Hid (solarR ⟨e, b, u⟩ d = (⟨0, 0, 0⟩, 2)) := (by simp [solarR, hs] : solarR ⟨e, b, u⟩ d = _)
    clear hs
    go_enter Try.func41, Try.ntmps41
    go_upto_region 2 with (go_at_call 72; refine (HSV.out _).mono ?_; rintro _ V1 ⟨rfl, hb1⟩)
    refine gen_w (fun W => Blk W (w.heap.size + 1) #[.int .i64 0, .int .i64 0, .int .i64 0] 75 ∧ Below w.heap.size w W) ⟨(Blk.at_ (by simp)).below hb1 (by simp), bl2 (by (repeat (first | exact Below.refl _ _ | assumption | (refine Below.alloc ?_ (by first | omega | (simp; omega) | (simp; done)) _) | (refine Below.setCell ?_ (by first | omega | (simp; omega) | (simp; done)) _) | (refine Below.drew ?_) | (refine belowN ?_ _) | (refine Below.trans ?_ (Below.mono ‹Below _ _ _› (by first | omega | (simp; omega) | (simp; done))))))) hb1⟩ ?_
    clear hb1
    rintro V ⟨gz, hw⟩
    have g3 := blk3 gz (.int .i64 0) (.int .i64 0) (.int .i64 0)
    have hle3 : w.heap.size ≤ w.heap.size + 1 := by omega
    have hw3 := ((hw.setCell (p := ⟨w.heap.size + 1, 0, none⟩) hle3 (.int .i64 0)).setCell (p := ⟨w.heap.size + 1, 1, none⟩) hle3 (.int .i64 0)).setCell (p := ⟨w.heap.size + 1, 2, none⟩) hle3 (.int .i64 0)
    have z0 := gz.cell 0; have z1 := gz.cell 1; have z2 := gz.cell 2
    have f0 := gz.free 0; have f1 := gz.free 1; have f2 := gz.free 2
    simp at z0 z1 z2
    go_wp2_with fail
    generalize ((V.setCell ⟨w.heap.size + 1, 0, none⟩ (.int .i64 0)).setCell ⟨w.heap.size + 1, 1, none⟩ (.int .i64 0)).setCell ⟨w.heap.size + 1, 2, none⟩ (.int .i64 0) = W3 at g3 hw3 ⊢
    have q0 := g3.cell 0; have q1 := g3.cell 1; have q2 := g3.cell 2
    simp at q0 q1 q2
    refine bodyPost_ret (v := .tuple #[.agg #[.int .i64 0, .int .i64 0, .int .i64 0], .int .i64 2]) (by simp [results, Try.results41, go_sem, q0, q1, q2]) rfl ?_
    rw [HT.out]
    exact ⟨rfl, hw3⟩
  | true =>
    have HSV := Lib.hid (fun W => isSolar_val hs W)
    have ok := solB_iff.1 hs
    cases hd : inB d 0 1000000 with
    | false =>
      have HDV := Lib.hid (fun W => isDay_val hd W)
      have HT : Hid (solarR ⟨e, b, u⟩ d = (⟨0, 0, 0⟩, 3)) := (by simp [solarR, hs, hd] : solarR ⟨e, b, u⟩ d = _)
      clear hs hd
      go_enter Try.func41, Try.ntmps41
      go_upto_region 4 with (first | (go_at_call 72; refine (HSV.out _).mono ?_; rintro _ V1 ⟨rfl, hb1⟩) | (go_at_call 68; refine (HDV.out _).mono ?_; rintro _ _ ⟨rfl, rfl⟩))
      refine gen_w (fun W => Blk W (w.heap.size + 1) #[.int .i64 0, .int .i64 0, .int .i64 0] 75 ∧ Below w.heap.size w W) ⟨(Blk.at_ (by simp)).below hb1 (by simp), bl2 (by (repeat (first | exact Below.refl _ _ | assumption | (refine Below.alloc ?_ (by first | omega | (simp; omega) | (simp; done)) _) | (refine Below.setCell ?_ (by first | omega | (simp; omega) | (simp; done)) _) | (refine Below.drew ?_) | (refine belowN ?_ _) | (refine Below.trans ?_ (Below.mono ‹Below _ _ _› (by first | omega | (simp; omega) | (simp; done))))))) hb1⟩ ?_
      clear hb1
      rintro V ⟨gz, hw⟩
      have g3 := blk3 gz (.int .i64 0) (.int .i64 0) (.int .i64 0)
      have hle3 : w.heap.size ≤ w.heap.size + 1 := by omega
      have hw3 := ((hw.setCell (p := ⟨w.heap.size + 1, 0, none⟩) hle3 (.int .i64 0)).setCell (p := ⟨w.heap.size + 1, 1, none⟩) hle3 (.int .i64 0)).setCell (p := ⟨w.heap.size + 1, 2, none⟩) hle3 (.int .i64 0)
      have z0 := gz.cell 0; have z1 := gz.cell 1; have z2 := gz.cell 2
      have f0 := gz.free 0; have f1 := gz.free 1; have f2 := gz.free 2
      simp at z0 z1 z2
      go_wp2_with fail
      generalize ((V.setCell ⟨w.heap.size + 1, 0, none⟩ (.int .i64 0)).setCell ⟨w.heap.size + 1, 1, none⟩ (.int .i64 0)).setCell ⟨w.heap.size + 1, 2, none⟩ (.int .i64 0) = W3 at g3 hw3 ⊢
      have q0 := g3.cell 0; have q1 := g3.cell 1; have q2 := g3.cell 2
      simp at q0 q1 q2
      refine bodyPost_ret (v := .tuple #[.agg #[.int .i64 0, .int .i64 0, .int .i64 0], .int .i64 3]) (by simp [results, Try.results41, go_sem, q0, q1, q2]) rfl ?_
      rw [HT.out]
      exact ⟨rfl, hw3⟩
    | true =>
      have HDV := Lib.hid (fun W => isDay_val hd W)
      obtain ⟨d0, d1⟩ := inB_iff.1 hd
      have HT : Hid (solarR ⟨e, b, u⟩ d = (solI ⟨e, b, u⟩ d, 0)) := (by simp [solarR, hs, hd] : solarR ⟨e, b, u⟩ d = _)
      have HX := Lib.hid (fun W => solar_any e b u d W ok d0 d1)
      obtain ⟨x, hx⟩ : ∃ x, x = solI ⟨e, b, u⟩ d := ⟨_, rfl⟩
      rw [← hx] at HT HX
      obtain ⟨xy, xm, xd⟩ := x
      clear hs hd hx
      go_enter Try.func41, Try.ntmps41
      go_upto_region 5 with (first | (go_at_call 72; refine (HSV.out _).mono ?_; rintro _ V1 ⟨rfl, hb1⟩; have gr : Blk V1 w.heap.size #[.int .i64 e, .int .i64 b, .int .i64 u] 24 := ((Blk.at_ rfl).alloc _).below hb1 (by first | omega | (simp; omega) | (simp; done)); have c0 := gr.cell 0; have c1 := gr.cell 1; have c2 := gr.cell 2; simp at c0 c1 c2) | (go_at_call 68; refine (HDV.out _).mono ?_; rintro _ _ ⟨rfl, rfl⟩))
      go_wp2_with (go_at_call 78; refine (HX.out _).mono ?_; rintro _ V ⟨rfl, hb2⟩; refine Hid.out ?_)
      have gz : Blk V (w.heap.size + 1) #[.int .i64 0, .int .i64 0, .int .i64 0] 75 := ((Blk.at_ (by simp)).below hb1 (by simp)).below hb2 (by have := hb1.size; simp at this; omega)
      have hw : Below w.heap.size w V := bl2 (bl2 (by (repeat (first | exact Below.refl _ _ | assumption | (refine Below.alloc ?_ (by first | omega | (simp; omega) | (simp; done)) _) | (refine Below.setCell ?_ (by first | omega | (simp; omega) | (simp; done)) _) | (refine Below.drew ?_) | (refine belowN ?_ _) | (refine Below.trans ?_ (Below.mono ‹Below _ _ _› (by first | omega | (simp; omega) | (simp; done))))))) hb1) hb2
      clear hb1 hb2 c0 c1 c2 gr
      refine Lib.hid ?_
      have g3 := blk3 gz (.int .i64 xy) (.int .i64 xm) (.int .i64 xd)
      have hle3 : w.heap.size ≤ w.heap.size + 1 := by omega
      have hw3 := ((hw.setCell (p := ⟨w.heap.size + 1, 0, none⟩) hle3 (.int .i64 xy)).setCell (p := ⟨w.heap.size + 1, 1, none⟩) hle3 (.int .i64 xm)).setCell (p := ⟨w.heap.size + 1, 2, none⟩) hle3 (.int .i64 xd)
      have z0 := gz.cell 0; have z1 := gz.cell 1; have z2 := gz.cell 2
      have f0 := gz.free 0; have f1 := gz.free 1; have f2 := gz.free 2
      simp at z0 z1 z2
      go_wp2_with fail
      generalize ((V.setCell ⟨w.heap.size + 1, 0, none⟩ (.int .i64 xy)).setCell ⟨w.heap.size + 1, 1, none⟩ (.int .i64 xm)).setCell ⟨w.heap.size + 1, 2, none⟩ (.int .i64 xd) = W3 at g3 hw3 ⊢
      have q0 := g3.cell 0; have q1 := g3.cell 1; have q2 := g3.cell 2
      simp at q0 q1 q2
      refine bodyPost_ret (v := .tuple #[.agg #[.int .i64 xy, .int .i64 xm, .int .i64 xd], .int .i64 0]) (by simp [results, Try.results41, go_sem, q0, q1, q2]) rfl ?_
      rw [HT.out]
      exact ⟨rfl, hw3⟩
/-- the day of a date, or the error -/
def dayR (r : Sol) (x : SDate) : Int × Int :=
  if solB r then (if inB x.y 0 4000 then (if inB x.m 1 12 then
    (if inB x.d 1 ((monL (extraN r x.y)).getD (x.m - 1).toNat 0) then
      (if inB (begI r x.y + x.d - 1 + sumL ((monL (extraN r x.y)).take (x.m - 1).toNat)) 0 1000000 then (begI r x.y + x.d - 1 + sumL ((monL (extraN r x.y)).take (x.m - 1).toNat), 0) else (0, 3))
    else (0, 7)) else (0, 7)) else (0, 3)) else (0, 2)
theorem slice_mon (b : Nat) : ∀ (k : Nat) (_ : k < 12) (w : World), (Instr.sliceAt 127 (.pointer (some ⟨b, 0, none⟩)) none (some (.int .i64 k)) none).run Try.prog w = .ok (.slice (some ⟨b, 0, none⟩) k 12) w
  | 0, _, _ => by kernel_rfl
  | 1, _, _ => by kernel_rfl
  | 2, _, _ => by kernel_rfl
  | 3, _, _ => by kernel_rfl
  | 4, _, _ => by kernel_rfl
  | 5, _, _ => by kernel_rfl
  | 6, _, _ => by kernel_rfl
  | 7, _, _ => by kernel_rfl
  | 8, _, _ => by kernel_rfl
  | 9, _, _ => by kernel_rfl
  | 10, _, _ => by kernel_rfl
  | 11, _, _ => by kernel_rfl
theorem mon_at (X : Int) {k : Nat} (hk : k < 12) : (monL X).getD k 0 = (monL X)[k]'hk := by
  rw [List.getD_eq_getElem?_getD, List.getElem?_eq_getElem (show k < (monL X).length from hk)]; rfl
theorem extra_bd {r : Sol} (ok : SolOk r) {y : Int} (y0 : 0 ≤ y) : extraN r y = 0 ∨ extraN r y = 1 := by
  have h4 := begI_step ok y0
  have h5 := yearN_bd r y
  unfold extraN; omega
theorem sum_mon {X : Int} (hx : X = 0 ∨ X = 1) : ∀ k, 0 ≤ sumL ((monL X).take k) ∧ sumL ((monL X).take k) ≤ 366 := fun k => by
  have h := sumL_take_le (l := monL X) (fun x hx' => by simp [monL] at hx'; omega) k
  have : sumL (monL X) ≤ 366 := by rcases hx with rfl | rfl <;> decide
  omega
set_option maxRecDepth 100000 in
set_option maxHeartbeats 8000000 in
theorem solarDay_all (e b u y m d : Int) (w : World) : Calls Try.prog 42 #[.agg #[.int .i64 e, .int .i64 b, .int .i64 u], .agg #[.int .i64 y, .int .i64 m, .int .i64 d]] w fun en w' => en = .returned (.tuple #[.int .i64 (dayR ⟨e, b, u⟩ ⟨y, m, d⟩).1, .int .i64 (dayR ⟨e, b, u⟩ ⟨y, m, d⟩).2]) ∧ Below w.heap.size w w' := by
  cases hs : solB ⟨e, b, u⟩ with
  | false =>
    have HSV := Lib.hid (fun W => isSolar_val hs W)
    have HT : Hid (dayR ⟨e, b, u⟩ ⟨y, m, d⟩ = (0, 2)) := (by simp [dayR, hs] : dayR ⟨e, b, u⟩ ⟨y, m, d⟩ = _)
    clear hs
    go_enter Try.func42, Try.ntmps42
    go_wp2_with (go_at_call 72; refine (HSV.out _).mono ?_; rintro _ V ⟨rfl, hb1⟩; have g0 : Blk V w.heap.size #[.int .i64 e, .int .i64 b, .int .i64 u] 24 := ((Blk.at_ rfl).alloc _).below hb1 (by first | omega | (simp; omega) | (simp; done)); have g1 : Blk V (w.heap.size + 1) #[.int .i64 y, .int .i64 m, .int .i64 d] 75 := (Blk.at_ (by simp)).below hb1 (by first | omega | (simp; omega) | (simp; done)); have hw : Below w.heap.size w V := bl2 (by (repeat (first | exact Below.refl _ _ | assumption | (refine Below.alloc ?_ (by first | omega | (simp; omega) | (simp; done)) _) | (refine Below.setCell ?_ (by first | omega | (simp; omega) | (simp; done)) _) | (refine Below.drew ?_) | (refine belowN ?_ _) | (refine Below.trans ?_ (Below.mono ‹Below _ _ _› (by first | omega | (simp; omega) | (simp; done))))))) hb1; (have c0 := g0.cell 0; have c1 := g0.cell 1; have c2 := g0.cell 2; have s0 := g1.cell 0; have s1 := g1.cell 1; have s2 := g1.cell 2; simp at c0 c1 c2 s0 s1 s2))
    refine bodyPost_ret (v := .tuple #[.int .i64 0, .int .i64 2]) (by simp [results, Try.results42, go_sem]) rfl ?_
    rw [HT.out]; exact ⟨rfl, hw⟩
  | true =>
    have HSV := Lib.hid (fun W => isSolar_val hs W)
    have ok := solB_iff.1 hs
    cases hy : inB y 0 4000 with
    | false =>
      have HYV := Lib.hid (fun W => isYear_val hy W)
      have HT : Hid (dayR ⟨e, b, u⟩ ⟨y, m, d⟩ = (0, 3)) := (by simp [dayR, hs, hy] : dayR ⟨e, b, u⟩ ⟨y, m, d⟩ = _)
      clear hs hy
      go_enter Try.func42, Try.ntmps42
      go_wp2_with (first | (go_at_call 72; refine (HSV.out _).mono ?_; rintro _ V ⟨rfl, hb1⟩; have g0 : Blk V w.heap.size #[.int .i64 e, .int .i64 b, .int .i64 u] 24 := ((Blk.at_ rfl).alloc _).below hb1 (by first | omega | (simp; omega) | (simp; done)); have g1 : Blk V (w.heap.size + 1) #[.int .i64 y, .int .i64 m, .int .i64 d] 75 := (Blk.at_ (by simp)).below hb1 (by first | omega | (simp; omega) | (simp; done)); have hw : Below w.heap.size w V := bl2 (by (repeat (first | exact Below.refl _ _ | assumption | (refine Below.alloc ?_ (by first | omega | (simp; omega) | (simp; done)) _) | (refine Below.setCell ?_ (by first | omega | (simp; omega) | (simp; done)) _) | (refine Below.drew ?_) | (refine belowN ?_ _) | (refine Below.trans ?_ (Below.mono ‹Below _ _ _› (by first | omega | (simp; omega) | (simp; done))))))) hb1; (have c0 := g0.cell 0; have c1 := g0.cell 1; have c2 := g0.cell 2; have s0 := g1.cell 0; have s1 := g1.cell 1; have s2 := g1.cell 2; simp at c0 c1 c2 s0 s1 s2)) | (go_at_call 79; refine (HYV.out _).mono ?_; rintro _ _ ⟨rfl, rfl⟩))
      refine bodyPost_ret (v := .tuple #[.int .i64 0, .int .i64 3]) (by simp [results, Try.results42, go_sem]) rfl ?_
      rw [HT.out]; exact ⟨rfl, hw⟩
    | true =>
      have HYV := Lib.hid (fun W => isYear_val hy W)
      obtain ⟨y0, y1⟩ := inB_iff.1 hy
      cases hm : inB m 1 12 with
      | false =>
        have HMV := Lib.hid (fun W => within_val hm W)
        have HT : Hid (dayR ⟨e, b, u⟩ ⟨y, m, d⟩ = (0, 7)) := (by simp [dayR, hs, hy, hm] : dayR ⟨e, b, u⟩ ⟨y, m, d⟩ = _)
        clear hs hy hm
        go_enter Try.func42, Try.ntmps42
        go_wp2_with (first | (go_at_call 72; refine (HSV.out _).mono ?_; rintro _ V ⟨rfl, hb1⟩; have g0 : Blk V w.heap.size #[.int .i64 e, .int .i64 b, .int .i64 u] 24 := ((Blk.at_ rfl).alloc _).below hb1 (by first | omega | (simp; omega) | (simp; done)); have g1 : Blk V (w.heap.size + 1) #[.int .i64 y, .int .i64 m, .int .i64 d] 75 := (Blk.at_ (by simp)).below hb1 (by first | omega | (simp; omega) | (simp; done)); have hw : Below w.heap.size w V := bl2 (by (repeat (first | exact Below.refl _ _ | assumption | (refine Below.alloc ?_ (by first | omega | (simp; omega) | (simp; done)) _) | (refine Below.setCell ?_ (by first | omega | (simp; omega) | (simp; done)) _) | (refine Below.drew ?_) | (refine belowN ?_ _) | (refine Below.trans ?_ (Below.mono ‹Below _ _ _› (by first | omega | (simp; omega) | (simp; done))))))) hb1; (have c0 := g0.cell 0; have c1 := g0.cell 1; have c2 := g0.cell 2; have s0 := g1.cell 0; have s1 := g1.cell 1; have s2 := g1.cell 2; simp at c0 c1 c2 s0 s1 s2)) | (go_at_call 79; refine (HYV.out _).mono ?_; rintro _ _ ⟨rfl, rfl⟩) | (go_at_call 61; (with_reducible refine (HMV.out _).mono ?_); rintro _ _ ⟨rfl, rfl⟩))
        refine bodyPost_ret (v := .tuple #[.int .i64 0, .int .i64 7]) (by simp [results, Try.results42, go_sem]) rfl ?_
        rw [HT.out]; exact ⟨rfl, hw⟩
      | true =>
        have HMV := Lib.hid (fun W => within_val hm W)
        obtain ⟨m0, m1⟩ := inB_iff.1 hm
        have hX := extra_bd ok y0
        have hM := begI_nn ok y0 (by omega)
        have HMM := Lib.hid (fun W => months_any e b u y W ok y0 (by omega))
        have HB := Lib.hid (fun W => begins_any e b u y W ok y0 (by omega))
        have HDR : Hid (dayR ⟨e, b, u⟩ ⟨y, m, d⟩ = if inB d 1 ((monL (extraN ⟨e, b, u⟩ y)).getD (m - 1).toNat 0) then
          (if inB (begI ⟨e, b, u⟩ y + d - 1 + sumL ((monL (extraN ⟨e, b, u⟩ y)).take (m - 1).toNat)) 0 1000000 then (begI ⟨e, b, u⟩ y + d - 1 + sumL ((monL (extraN ⟨e, b, u⟩ y)).take (m - 1).toNat), 0) else (0, 3)) else (0, 7)) := (by simp only [dayR, hs, hy, hm, if_true] : dayR ⟨e, b, u⟩ ⟨y, m, d⟩ = _)
        obtain ⟨X, hXe⟩ : ∃ X, X = extraN ⟨e, b, u⟩ y := ⟨_, rfl⟩
        obtain ⟨M, hMe⟩ : ∃ M, M = begI ⟨e, b, u⟩ y := ⟨_, rfl⟩
        rw [← hXe] at HMM HDR hX
        rw [← hMe] at HB HDR hM
        obtain ⟨j, hj⟩ : ∃ j : Nat, m = (j : Int) + 1 := ⟨(m - 1).toNat, by omega⟩
        have hj12 : j < 12 := by omega
        have ej : (m - 1).toNat = j := by omega
        rw [ej] at HDR
        have hLb : ∀ x ∈ monL X, 0 ≤ x ∧ x ≤ 31 := fun x hx => by simp [monL] at hx; omega
        have HJ := Lib.hid hj
        have w1 : IntKind.i64.wrap (m - 1) = (j : Int) := by rw [show m - 1 = (j : Int) by omega]; exact IntWalk.i64_in _ ⟨by omega, by omega⟩
        clear hs hy hm hXe hMe ok ej hj
        go_enter Try.func42, Try.ntmps42
        have HMM' : Hid (∀ W, Calls Try.prog 80 #[.agg #[.int .i64 e, .int .i64 b, .int .i64 u], .int .i64 y] W fun en w' => en = .returned (.agg #[.int .i64 31, .int .i64 (28 + X), .int .i64 31, .int .i64 30, .int .i64 31, .int .i64 30, .int .i64 31, .int .i64 31, .int .i64 30, .int .i64 31, .int .i64 30, .int .i64 31]) ∧ Below W.heap.size W w') := HMM
        clear HMM
        go_upto_region 8 with (first | (go_at_call 72; refine (HSV.out _).mono ?_; rintro _ V ⟨rfl, hb1⟩; have g0 : Blk V w.heap.size #[.int .i64 e, .int .i64 b, .int .i64 u] 24 := ((Blk.at_ rfl).alloc _).below hb1 (by first | omega | (simp; omega) | (simp; done)); have g1 : Blk V (w.heap.size + 1) #[.int .i64 y, .int .i64 m, .int .i64 d] 75 := (Blk.at_ (by simp)).below hb1 (by first | omega | (simp; omega) | (simp; done)); have hw : Below w.heap.size w V := bl2 (by (repeat (first | exact Below.refl _ _ | assumption | (refine Below.alloc ?_ (by first | omega | (simp; omega) | (simp; done)) _) | (refine Below.setCell ?_ (by first | omega | (simp; omega) | (simp; done)) _) | (refine Below.drew ?_) | (refine belowN ?_ _) | (refine Below.trans ?_ (Below.mono ‹Below _ _ _› (by first | omega | (simp; omega) | (simp; done))))))) hb1; (have c0 := g0.cell 0; have c1 := g0.cell 1; have c2 := g0.cell 2; have s0 := g1.cell 0; have s1 := g1.cell 1; have s2 := g1.cell 2; simp at c0 c1 c2 s0 s1 s2)) | (go_at_call 79; refine (HYV.out _).mono ?_; rintro _ _ ⟨rfl, rfl⟩) | (go_at_call 61; (with_reducible refine (HMV.out _).mono ?_); rintro _ _ ⟨rfl, rfl⟩) | (go_at_call 80; refine (HMM'.out _).mono ?_; rintro _ V2 ⟨rfl, hb2⟩; have hw2 := bl2 hw hb2; have g0 := g0.below hb2 g0.lt; have g1 := g1.below hb2 g1.lt))
        obtain ⟨b6, hb6⟩ : ∃ b, b = V2.heap.size := ⟨_, rfl⟩
        rw [← hb6]
        refine gen_w (fun W => Blk W w.heap.size #[.int .i64 e, .int .i64 b, .int .i64 u] 24 ∧ Blk W (w.heap.size + 1) #[.int .i64 y, .int .i64 m, .int .i64 d] 75 ∧ Blk W b6 #[.int .i64 31, .int .i64 (28 + X), .int .i64 31, .int .i64 30, .int .i64 31, .int .i64 30, .int .i64 31, .int .i64 31, .int .i64 30, .int .i64 31, .int .i64 30, .int .i64 31] 127 ∧ Below w.heap.size w W) ⟨g0.alloc _, g1.alloc _, Blk.at_ hb6, bla hw2⟩ ?_
        clear g0 g1 hw2 hw hb2 hb1 hb6 c0 c1 c2 s0 s1 s2
        rintro V3 ⟨g0, g1, gm, hw⟩
        (have c0 := g0.cell 0; have c1 := g0.cell 1; have c2 := g0.cell 2; have s0 := g1.cell 0; have s1 := g1.cell 1; have s2 := g1.cell 2; simp at c0 c1 c2 s0 s1 s2)
        have hcm : ∀ k (_ : k < 12), V3.cell? ⟨b6, k, none⟩ = some (.int .i64 ((monL X).getD k 0)) := fun k hk => by
          rw [gm.cell k, mon_at X hk]
          show ((monL X).map (Value.int .i64)).toArray[k]? = _
          simp [show k < (monL X).length from hk]
          rfl
        have hcj := hcm j hj12
        have hn31 : 0 ≤ (monL X).getD j 0 ∧ (monL X).getD j 0 ≤ 31 := by rw [mon_at X hj12]; exact hLb _ (List.getElem_mem _)
        obtain ⟨n, hn⟩ : ∃ n, n = (monL X).getD j 0 := ⟨_, rfl⟩
        rw [← hn] at hcj HDR hn31
        have HCM := Lib.hid hcm
        clear hcm
        have j0 : (0 : Int) ≤ (j : Int) := by omega
        have j12 : (j : Int) < 12 := by omega
        cases hd1 : inB d 1 n with
        | false =>
          have HNV := Lib.hid (fun W => within_val hd1 W)
          have HT : Hid (dayR ⟨e, b, u⟩ ⟨y, m, d⟩ = (0, 7)) := (by rw [HDR.out, hd1]; rfl : dayR ⟨e, b, u⟩ ⟨y, m, d⟩ = _)
          clear hd1 HDR hn
          (refine wp_region_ext (by kernel_rfl) (by kernel_rfl) ?_; (repeat (go_big_quiet_step((go_at_call 61; with_reducible exact Calls.ext_same (HNV.out _))))); with_reducible refine wpQuiet_nil ?_; intro w1 hw1; have hb1 := ext_below hw1; clear hw1)
          go_wp2_with fail
          refine bodyPost_ret (v := .tuple #[.int .i64 0, .int .i64 7]) (by simp [results, Try.results42, go_sem]) rfl ?_
          rw [HT.out]; exact ⟨rfl, bl2 hw hb1⟩
        | true =>
          have HNV := Lib.hid (fun W => within_val hd1 W)
          obtain ⟨d0, d1⟩ := inB_iff.1 hd1
          have HT : Hid (dayR ⟨e, b, u⟩ ⟨y, m, d⟩ = if inB (M + d - 1 + sumL ((monL X).take j)) 0 1000000 then (M + d - 1 + sumL ((monL X).take j), 0) else (0, 3)) := (by rw [HDR.out, hd1]; rfl : dayR ⟨e, b, u⟩ ⟨y, m, d⟩ = _)
          have w2 : IntKind.i64.wrap (M + d) = M + d := IntWalk.i64_in _ ⟨by omega, by omega⟩
          have w3 : IntKind.i64.wrap (M + d - 1) = M + d - 1 := IntWalk.i64_in _ ⟨by omega, by omega⟩
          clear hd1 HDR hn
          (refine wp_region_ext (by kernel_rfl) (by kernel_rfl) ?_; (repeat (go_big_quiet_step((go_at_call 61; with_reducible exact Calls.ext_same (HNV.out _))))); with_reducible refine wpQuiet_nil ?_; intro w1 hw1; have hb1 := ext_below hw1; clear hw1)
          have hwx := bl2 hw hb1
          have g0 := g0.below hb1 g0.lt; have g1 := g1.below hb1 g1.lt; have gm := gm.below hb1 gm.lt
          (have c0 := g0.cell 0; have c1 := g0.cell 1; have c2 := g0.cell 2; have s0 := g1.cell 0; have s1 := g1.cell 1; have s2 := g1.cell 2; simp at c0 c1 c2 s0 s1 s2)
          go_upto_region 10 with fail
          clear hb1
          (refine wp_region_ext (by kernel_rfl) (by kernel_rfl) ?_; (repeat (go_big_quiet_step((go_at_call 81; with_reducible exact Calls.ext_of (HB.out _))))); with_reducible refine wpQuiet_nil ?_; intro w1 hw1; have hb1 := ext_below hw1; clear hw1)
          have hwy := bl2 hwx hb1
          have g0 := g0.below hb1 g0.lt; have g1 := g1.below hb1 g1.lt; have gm := gm.below hb1 gm.lt
          (have c0 := g0.cell 0; have c1 := g0.cell 1; have c2 := g0.cell 2; have s0 := g1.cell 0; have s1 := g1.cell 1; have s2 := g1.cell 2; simp at c0 c1 c2 s0 s1 s2)
          have hsl := slice_mon b6 j hj12
          have HCM2 : Hid (∀ W, Below w1.heap.size w1 W → ∀ k (_ : k < 12), W.cell? ⟨b6, k, none⟩ = some (.int .i64 ((monL X).getD k 0))) := (fun W hW k hk => by
            rw [(gm.below hW gm.lt).cell k, mon_at X hk]
            show ((monL X).map (Value.int .i64)).toArray[k]? = _
            simp [show k < (monL X).length from hk]
            rfl : ∀ W, Below w1.heap.size w1 W → ∀ k (_ : k < 12), W.cell? ⟨b6, k, none⟩ = some (.int .i64 ((monL X).getD k 0)))
          have HSU := Lib.hid (sum_mon hX)
          have HLB := Lib.hid hLb
          clear hcj HCM hb1 gm g0 g1 hLb hX
          go_wp2_with fail
          rename World => Wa
          go_loopw [7, 9, 50] (fun v _ i wr => ∃ k : Nat, k ≤ j ∧ i = .int .i64 k ∧ v = .int .i64 (M + d - 1 + sumL ((monL X).take k)) ∧ Below Wa.heap.size Wa wr) (fun _ _ i _ => j - (intOf i).toNat)
          case atStart => exact ⟨0, by omega, rfl, by simp [sumL], Below.refl _ _⟩
          case round =>
            obtain ⟨k, hk, rfl, rfl, hb⟩ := hrel
            have hsk := HSU.out k
            by_cases hlt : k < j
            · have c9 := HCM2.out wr hb k (by omega)
              have hST : Hid (sumL ((monL X).take (k + 1)) = sumL ((monL X).take k) + (monL X).getD k 0) := (by rw [sumL_take _ k (show k < (monL X).length by show k < 12; omega), mon_at X (by omega)]; rfl : _ = _)
              have hx9 : 0 ≤ (monL X).getD k 0 ∧ (monL X).getD k 0 ≤ 31 := by rw [mon_at X (by omega)]; exact HLB.out _ (List.getElem_mem _)
              obtain ⟨x9, hx⟩ : ∃ x, x = (monL X).getD k 0 := ⟨_, rfl⟩
              obtain ⟨S, hS⟩ : ∃ S, S = sumL ((monL X).take k) := ⟨_, rfl⟩
              rw [← hx] at c9 hST hx9
              rw [← hS] at hST hsk ⊢
              have k0 : (0 : Int) ≤ (k : Int) := by omega
              have kj : (k : Int) < (j : Int) := by omega
              have w4 : IntKind.i64.wrap (M + d - 1 + S + x9) = M + d - 1 + S + x9 := IntWalk.i64_in _ ⟨by omega, by omega⟩
              clear hx hS
              go_wp2_with fail
              go_roundw
              case rel => exact ⟨k + 1, by omega, by go_num, by rw [hST.out, Int.add_assoc], hb⟩
              case measure => simp [intOf]; omega
            · obtain rfl : k = j := by omega
              obtain ⟨D, hD⟩ : ∃ D, D = M + d - 1 + sumL ((monL X).take k) := ⟨_, rfl⟩
              rw [← hD] at HT ⊢
              clear hD
              cases hdd : inB D 0 1000000 with
              | false =>
                have HDV := Lib.hid (fun W => isDay_val hdd W)
                rw [hdd] at HT
                clear hdd
                go_wp2_with (go_at_call 68; refine (HDV.out _).mono ?_; rintro _ _ ⟨rfl, rfl⟩)
                refine bodyPost_ret (v := .tuple #[.int .i64 0, .int .i64 3]) (by simp [results, Try.results42, go_sem]) rfl ?_
                rw [HT.out]; exact ⟨rfl, bl2 hwy hb⟩
              | true =>
                have HDV := Lib.hid (fun W => isDay_val hdd W)
                rw [hdd] at HT
                clear hdd
                go_wp2_with (go_at_call 68; refine (HDV.out _).mono ?_; rintro _ _ ⟨rfl, rfl⟩)
                refine bodyPost_ret (v := .tuple #[.int .i64 D, .int .i64 0]) (by simp [results, Try.results42, go_sem]) rfl ?_
                rw [HT.out]; exact ⟨rfl, bl2 hwy hb⟩
theorem solarDay_any (e b u y m d : Int) (w : World) (_hd : -1000000000000000000 ≤ d ∧ d ≤ 1000000000000000000) : Calls Try.prog 42 #[.agg #[.int .i64 e, .int .i64 b, .int .i64 u], .agg #[.int .i64 y, .int .i64 m, .int .i64 d]] w fun en w' => en = .returned (.tuple #[.int .i64 (dayR ⟨e, b, u⟩ ⟨y, m, d⟩).1, .int .i64 (dayR ⟨e, b, u⟩ ⟨y, m, d⟩).2]) ∧ Below w.heap.size w w' :=
  solarDay_all e b u y m d w
end Go.Proofs.Ytfbnllmmoaialaa

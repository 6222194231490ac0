/- School: Gloss. -/
import Derived.Test.YtidlmbajpbbilaaScS
namespace Go.Proofs.Ytidlmbajpbbilaa
open Go.RowKit
attribute [local go_sem] Oper.semAt_some

theorem firstIdx_lt {α : Type} {p : α → Bool} {l : List α} (h : 0 ≤ firstIdx p l) : ∃ n : Nat, n < l.length ∧ firstIdx p l = (n : Int) := by
  unfold firstIdx at *
  have : ∀ (l : List α) (k : Nat), 0 ≤ firstFrom p l k → ∃ n : Nat, n < l.length ∧ firstFrom p l k = ((k + n : Nat) : Int) := by
    intro l
    induction l with
    | nil => intro k h; simp [firstFrom] at h
    | cons x l ih =>
      intro k h
      simp only [firstFrom] at h ⊢
      by_cases hp : p x = true
      · rw [if_pos hp]; exact ⟨0, by simp, by simp⟩
      · rw [if_neg hp] at h ⊢
        obtain ⟨n, h1, h2⟩ := ih (k + 1) h
        exact ⟨n + 1, by simp; omega, by rw [h2]; congr 1; omega⟩
  obtain ⟨n, h1, h2⟩ := this l 0 h
  exact ⟨n, h1, by rw [h2]; simp⟩
theorem firstIdx_neg {α : Type} {p : α → Bool} {l : List α} (h : ¬ 0 ≤ firstIdx p l) : firstIdx p l = -1 := by
  unfold firstIdx at *
  have : ∀ (l : List α) (k : Nat), ¬ 0 ≤ firstFrom p l k → firstFrom p l k = -1 := by
    intro l
    induction l with
    | nil => intro k h; rfl
    | cons x l ih =>
      intro k h
      simp only [firstFrom] at h ⊢
      by_cases hp : p x = true
      · rw [if_pos hp] at h; omega
      · rw [if_neg hp] at h ⊢; exact ih _ h
  exact this l 0 h
/-- a slice from its k-th element on -/
theorem Sl.from_ {α : Type} {f : α → List Value} {size : Nat} {w : World} {B : Nat} {A : Option Addr} {l : List α} (h : Sl f size w B A l) (hf : ∀ x, (f x).length = size) (k : Nat) (c : Nat) (hc : l.length ≤ c) :
    ∃ A', sliced A k l.length c size = .slice A' (l.length - k) (c - k) ∧ Sl f size w B A' (l.drop k) := by
  refine ⟨_, rfl, ?_⟩
  refine ⟨flat_length f size hf _, fun hn => ?_⟩
  simp only [List.length_drop] at hn
  obtain ⟨b, o, e, hb, hcell⟩ := h.2 (by omega)
  subst e
  rw [if_neg (by omega)]
  refine ⟨b, o + k * size, by simp [Go.WideShapes.add_plain], hb, fun j u hu => ?_⟩
  rw [Nat.add_assoc]
  refine hcell _ _ ?_
  have e : flat f l = flat f (l.take k) ++ flat f (l.drop k) := by
    rw [flat, flat, flat, ← List.flatMap_append, List.take_append_drop]
  have hl : (flat f (l.take k)).length = k * size := by rw [flat_length f size hf, List.length_take, Nat.min_eq_left (by omega)]
  rw [e, List.getElem?_append_right (by rw [hl]; omega), hl, show k * size + j - k * size = j by omega]
  exact hu


theorem glAt_none {s : Sch} {kind : Int} {cs : List Cas} {k : Nat} (h : firstIdx (fun t : Cas => holdsB (chartL s k) t.when_) cs = -1) : glAt s kind cs k = (-1, 1) := by
  simp only [glAt, h]; rfl
theorem glAt_two {s : Sch} {kind : Int} {cs : List Cas} {k n : Nat} {j : Int} (h : firstIdx (fun t : Cas => holdsB (chartL s k) t.when_) cs = (n : Int)) (h2 : firstIdx (fun t : Cas => holdsB (chartL s k) t.when_) (cs.drop (n + 1)) = j) (hj : 0 ≤ j) : glAt s kind cs k = ((n : Int) + 1 + j, 2) := by
  simp only [glAt, h, Int.toNat_natCast, h2]
  rw [if_neg (by omega), if_pos hj]
theorem glAt_one {s : Sch} {kind : Int} {cs : List Cas} {k n : Nat} (h : firstIdx (fun t : Cas => holdsB (chartL s k) t.when_) cs = (n : Int)) (h2 : firstIdx (fun t : Cas => holdsB (chartL s k) t.when_) (cs.drop (n + 1)) = -1) (hn : n < cs.length) :
    glAt s kind cs k = if ansN s 0 kind (chartL s k) = 2 ^ cs[n].says.toNat then (0, 0) else ((n : Int), 3) := by
  simp only [glAt, h, Int.toNat_natCast, h2, List.getElem?_eq_getElem hn]
  rw [if_neg (by omega), if_neg (by omega)]; rfl
theorem cases_slice (A : Option Addr) (len c n : Nat) (W : World) (h : n + 1 ≤ len) : (Instr.slice 51 (.slice A len c) (some (.int .i64 ((n : Int) + 1))) none none).run Try.prog W = .ok (sliced A (n + 1) len c 2) W := by
  rw [run_slice_l W 51 A len c (by kernel_rfl) .i64 ((n : Int) + 1) (by omega) (by omega)]
  have hs : (sizeOf (Try.prog.elem 51)).run Try.prog W = .ok 2 W := by kernel_rfl
  rw [hs]
  rfl

set_option maxRecDepth 100000 in
set_option maxHeartbeats 4000000 in
theorem gloss_yes (s : Sch) (kind : Int) (cs : List Cas) (A : Option Addr) (c : Nat) (w : World) (hcap : cs.length ≤ c) (_hcm : c ≤ 1000000000) (hr : s.reads w w.heap.size) (hA : CasRead w w.heap.size A cs)
    (vs : schB s = true) (hk : inB kind 0 (s.kinds - 1) = true) (h40 : cs.length ≤ 40) (hv : cs.all (casB s) = true) :
    Calls Try.prog 27 #[scv s s.rv, .int .i64 kind, .slice A cs.length c] w (Ret4 (glossR s kind cs) w) := by
  have hlm := hA.2.1
  have V := valid_of hr.oks vs
  have HC := fun W (hW : Below w.heap.size w W) => Lib.hid (chk_any vs W ((hr.below hW).more hW.size))
  have HK := fun W => Lib.hid (isKind_any s s.rv kind W V.kinds.1 V.kinds.2)
  have HI := fun W B (hW : Below w.heap.size w W) (hB : ScBox W B s s.rv) => Lib.hid (cases_any_any 65 #[.pointer (some ⟨B, 0, none⟩)] A c cs (fun c => !casB s c) W ent_gloss1 hlm ((hA.1.below hW).more hW.size)
    (fun t ht W' hW' => gloss1_any s s.rv t B W' V.small V.answers.1 V.answers.2 (((hA.2.2 t ht).below (hW.trans (hW'.mono hW.size))).more (Nat.le_trans hW.size hW'.size)) (hB.below hW' hB.1)))
  rw [hk] at HK
  have d40 : decide ((40 : Int) < (cs.length : Int)) = false := by simp; omega
  have hany : (cs.any fun c => !casB s c) = false := by rw [← Bool.not_eq_true]; simpa using hv
  rw [hany] at HI
  have HR0 : Hid (glossR s kind cs = (if glossN s kind cs < 0 then (-1, -1, 0, 0) else (glossN s kind cs, (glAt s kind cs (glossN s kind cs).toNat).1, (glAt s kind cs (glossN s kind cs).toNat).2, 0))) := (by simp only [glossR, vs, hk, h40, hv, if_true] : glossR s kind cs = _)
  have kin := inB_iff.1 hk
  have HV := Lib.hid hv
  clear hk hany hv
  refine calls_marks Try.func27 rfl ?_
  simp only [Try.ntmps27, List.size_toArray, List.length_cons, List.length_nil, Nat.reduceAdd, Nat.reduceSub, Array.replicate_succ, Array.replicate_zero, List.push_toArray, List.append_toArray, List.nil_append, List.cons_append]
  go_wp2_with fail
  refine ((HC _ (by (repeat (first | exact Below.refl _ _ | assumption | (refine Below.alloc ?_ (by first | omega | (simp; omega) | (simp; done)) _) | (refine Below.setCell ?_ (by first | omega | (simp; omega) | (simp; done)) _) | (refine Below.drew ?_) | (refine belowN ?_ _) | (refine Below.trans ?_ (Below.mono ‹Below _ _ _› (by first | omega | (simp; omega) | (simp; done)))))))).out).mono ?_
  rintro e w1 ⟨rfl, hb1⟩
  have hc1 := fun b o (h : b < w.heap.size + 7) => (bcell hb1).1 b o (by simp; omega)
  have hf1 := fun b o (h : b < w.heap.size + 7) => (bcell hb1).2 b o (by simp; omega)
  have hk1 := fun b (h : b < w.heap.size + 7) => hb1.block b (by simp; omega)
  have hz1 : w.heap.size + 7 ≤ w1.heap.size := (by have := hb1.size; simp at this; omega)
  go_wp2_with fail
  refine ((HK _).out).mono ?_
  rintro e w2 ⟨rfl, hb2⟩
  have hc2 := fun b o (h : b < w.heap.size + 7) => ((bcell hb2).1 b o (by omega)).trans (hc1 b o h)
  have hf2 := fun b o (h : b < w.heap.size + 7) => ((bcell hb2).2 b o (by omega)).trans (hf1 b o h)
  have hk2 := fun b (h : b < w.heap.size + 7) => (hb2.block b (by omega)).trans (hk1 b h)
  have hz2 : w.heap.size + 7 ≤ w2.heap.size := (by have := hb2.size; omega)
  go_wp2_with fail
  refine ((HI _ w.heap.size (by (repeat (first | exact Below.refl _ _ | assumption | (refine Below.alloc ?_ (by first | omega | (simp; omega) | (simp; done)) _) | (refine Below.setCell ?_ (by first | omega | (simp; omega) | (simp; done)) _) | (refine Below.drew ?_) | (refine belowN ?_ _) | (refine Below.trans ?_ (Below.mono ‹Below _ _ _› (by first | omega | (simp; omega) | (simp; done))))))) ⟨by omega, by simp [hc2, go_sem], by simp [hc2, go_sem], by simp [hc2, go_sem], by simp [hc2, go_sem], by simp [hc2, go_sem]⟩).out).mono ?_
  rintro e w3 ⟨rfl, hb3⟩
  have hc3 := fun b o (h : b < w.heap.size + 7) => ((bcell hb3).1 b o (by omega)).trans (hc2 b o h)
  have hf3 := fun b o (h : b < w.heap.size + 7) => ((bcell hb3).2 b o (by omega)).trans (hf2 b o h)
  have hk3 := fun b (h : b < w.heap.size + 7) => (hb3.block b (by omega)).trans (hk2 b h)
  have hz3 : w.heap.size + 7 ≤ w3.heap.size := (by have := hb3.size; omega)
  have l0 : w.heap.size < w3.heap.size := by omega
  have hbel3 : Below w.heap.size w w3 := by (repeat (first | exact Below.refl _ _ | assumption | (refine Below.alloc ?_ (by first | omega | (simp; omega) | (simp; done)) _) | (refine Below.setCell ?_ (by first | omega | (simp; omega) | (simp; done)) _) | (refine Below.drew ?_) | (refine belowN ?_ _) | (refine Below.trans ?_ (Below.mono ‹Below _ _ _› (by first | omega | (simp; omega) | (simp; done))))))
  go_wp2
  refine wp_world (fun W => Below w.heap.size w W ∧ W.heap.size = w3.heap.size + 2 ∧ Blk W w3.heap.size #[.int .i64 s.places, .int .i64 s.signs, .int .i64 s.kinds, .int .i64 s.answers, s.rv, .int .u32 0] 108 ∧
    Blk W (w3.heap.size + 1) #[.int .i64 s.places, .int .i64 s.signs, .int .i64 s.kinds, .int .i64 s.answers, s.rv] 24 ∧ Blk W (w.heap.size + 1) #[.int .i64 kind] 3 ∧ Blk W (w.heap.size + 1 + 1) #[.slice A cs.length c] 51 ∧
    Blk W (w.heap.size + 1 + 1 + 1) #[.int .i64 0] 3 ∧ Blk W (w.heap.size + 1 + 1 + 1 + 1) #[.int .i64 0] 3 ∧ Blk W (w.heap.size + 1 + 1 + 1 + 1 + 1) #[.int .i64 0] 55 ∧ Blk W (w.heap.size + 1 + 1 + 1 + 1 + 1 + 1) #[.int .i64 0] 31) ?_ ?_
  · have gl : Below w3.heap.size w3 ((w3.alloc (.cells #[.int .i64 s.places, .int .i64 s.signs, .int .i64 s.kinds, .int .i64 s.answers, s.rv, .int .u32 0] 108)).alloc (.cells #[.int .i64 s.places, .int .i64 s.signs, .int .i64 s.kinds, .int .i64 s.answers, s.rv] 24)) := by (repeat (first | exact Below.refl _ _ | assumption | (refine Below.alloc ?_ (by first | omega | (simp; omega) | (simp; done)) _) | (refine Below.setCell ?_ (by first | omega | (simp; omega) | (simp; done)) _) | (refine Below.drew ?_) | (refine belowN ?_ _) | (refine Below.trans ?_ (Below.mono ‹Below _ _ _› (by first | omega | (simp; omega) | (simp; done))))))
    exact ⟨hbel3.trans (gl.mono (by omega)), by simp, (Blk.at_ rfl).alloc _, Blk.at_ (by simp), (gl.block _ (by omega)).trans ((hk3 _ (by omega)).trans ((((((Blk.at_ (by simp)).alloc _).alloc _).alloc _).alloc _).alloc _)),
      (gl.block _ (by omega)).trans ((hk3 _ (by omega)).trans (((((Blk.at_ (by simp)).alloc _).alloc _).alloc _).alloc _)), (gl.block _ (by omega)).trans ((hk3 _ (by omega)).trans ((((Blk.at_ (by simp)).alloc _).alloc _).alloc _)),
      (gl.block _ (by omega)).trans ((hk3 _ (by omega)).trans (((Blk.at_ (by simp)).alloc _).alloc _)), (gl.block _ (by omega)).trans ((hk3 _ (by omega)).trans ((Blk.at_ (by simp)).alloc _)), (gl.block _ (by omega)).trans ((hk3 _ (by omega)).trans (Blk.at_ (by simp)))⟩
  obtain ⟨rr, hrr⟩ : ∃ r, r = w3.heap.size := ⟨_, rfl⟩
  rw [← hrr]
  rintro Wl ⟨hbl, hzl, gr, gs, gk, gc, g6, g7, g8, g9⟩
  have hrz : w.heap.size + 1 + 1 + 1 + 1 + 1 + 1 < rr := by omega
  have HA := Lib.hid hA
  have HRR := Lib.hid hr
  have HCV := Lib.hid (fun (t : Cas) (ht : t ∈ cs) => (by have := List.all_eq_true.1 HV.out t ht; simpa [casB, Bool.and_eq_true] using this : testsB s t.when_ = true ∧ inB t.says 0 (s.answers - 1) = true))
  clear hc1 hc2 hc3 hf1 hf2 hf3 hk1 hk2 hk3 hz1 hz2 hz3 hb1 hb2 hb3 HC HK HI hrr hbel3 l0 d40 hA hr HV
  refine wp_rangeB (lb := #[.pointer (some ⟨rr + 1, 0, none⟩)]) rfl ent_all1 (all1_iter s s.rv (rr + 1) V.small V.charts) [(11, 0)] 12 1 28
    (fun k W => Below Wl.heap.size Wl W ∧ Hid (∀ j, j < k → ((glAt s kind cs j).2 != 0) = false))
    (fun c W => c = .ret ∧ ∃ k, k < chartsC s ∧ Hid (∀ j, j < k → ((glAt s kind cs j).2 != 0) = false) ∧ ((glAt s kind cs k).2 != 0) = true ∧ Below w.heap.size w W ∧ Blk W (w.heap.size + 1 + 1 + 1) #[.int .i64 (k : Int)] 3 ∧ Blk W (w.heap.size + 1 + 1 + 1 + 1) #[.int .i64 (glAt s kind cs k).1] 3 ∧ Blk W (w.heap.size + 1 + 1 + 1 + 1 + 1) #[.int .i64 (glAt s kind cs k).2] 55 ∧ Blk W (w.heap.size + 1 + 1 + 1 + 1 + 1 + 1) #[.int .i64 0] 31)
    (fun k => (Stab.low (Nat.le_refl _) _ (Nat.le_refl _)).and (Stab.pure _)) ?hIx ?hE ?hD ⟨Below.refl _ _, fun j h => by omega⟩ ?hps ?hassign ?hbody ?hdone ?hstop
  case hIx => exact fun c => (Stab.pure _).and (Stab.ex fun k => (Stab.pure _).and ((Stab.pure _).and ((Stab.pure _).and ((Stab.low (by omega) _ (Nat.le_refl _)).and ((Stab.blk _ _ _ _).and ((Stab.blk _ _ _ _).and ((Stab.blk _ _ _ _).and (Stab.blk _ _ _ _))))))))
  case hE => exact fun k xs => Stab.ex fun A => Stab.ex fun c => (Stab.pure _).and (Stab.sl _ _)
  case hD => exact fun k W hi => ⟨by have := hi.1.size; omega, by rw [(gs.below hi.1 (by omega)).cell]; rfl, by rw [(gs.below hi.1 (by omega)).cell]; rfl, by rw [(gs.below hi.1 (by omega)).cell]; rfl, by rw [(gs.below hi.1 (by omega)).cell]; rfl, by rw [(gs.below hi.1 (by omega)).cell]; rfl⟩
  case hps => rintro k W xs ⟨A, c, rfl, _⟩; rfl
  case hassign =>
    rintro l k xs W K ⟨A, c, rfl, _⟩ hK
    rw [round2B] at hK
    rw [fold2]
    simp only [List.setIfInBounds_toArray, List.set_cons_succ, List.set_cons_zero] at hK ⊢
    gi_wp2
    exact hK
  case hbody =>
    rintro l k xs b W hk ⟨hb2, hno⟩ ⟨A', c', rfl, hsl⟩ hbk hl1 hl2
    rw [round2B]
    simp only [List.setIfInBounds_toArray, List.set_cons_succ, List.set_cons_zero]
    have hbw : Below w.heap.size w W := hbl.trans (hb2.mono hbl.size)
    have hln : (chartL s k).length = s.places.toNat := digits_len _ _ _
    have HQ := Lib.hid (asks0 (c := c') V ((HRR.out.below hbw).more hbw.size) kin.1 (by omega) hln rfl (chartL_bd V k) hsl)
    have hbkl := hbk.lt
    have cb := hbk.cell 0
    have hcs : ∀ t ∈ cs, Cas.reads W W.heap.size t := fun t ht => ((HA.out.2.2 t ht).below hbw).more hbw.size
    obtain ⟨p, hp⟩ : ∃ p : Cas → Bool, p = fun t => holdsB (chartL s k) t.when_ := ⟨_, rfl⟩
    have HG : ∀ t ∈ cs, ∀ W', Below W.heap.size W W' → Calls Try.prog 68 (#[Value.agg #[t.v, .int .i64 t.says]] ++ #[.pointer (some ⟨b, 0, none⟩)]) W' fun e W'' => e = .returned (.bool (p t)) ∧ Below W'.heap.size W' W'' := fun t ht W' hW' => by
      rw [hp]
      refine gloss2_any A' c' s.places.toNat (chartL s k) t b W' hln (((hcs t ht).below hW').more hW'.size) (fun u hu => ?_) (chartL_bd V k) ((hsl.below hW').more hW'.size) (by have := hW'.size; omega) ?_
      · have h1 := (HCV.out t ht).1
        simp only [testsB, Bool.and_eq_true, List.all_eq_true] at h1
        exact tstB_fit (((hcs t ht).2.2) u hu) V.places.1 (h1.2 u hu)
      · rw [(bcell hW').1 _ _ hbkl]; simpa using cb
    have H1 := Lib.hid (cases_idx_any 68 #[.pointer (some ⟨b, 0, none⟩)] A c cs p W ent_gloss2 hlm ((HA.out.1.below hbw).more hbw.size) (fun t ht W' hW' => HG t ht W' hW'))
    have hsz := hb2.size
    have k1 := (gk.below hb2 (by omega)).cell 0; have k2 := (gc.below hb2 (by omega)).cell 0
    simp at k1 k2 cb
    rcases Decidable.em (0 ≤ firstIdx p cs) with hi | hi
    · obtain ⟨n, hn, e1⟩ := firstIdx_lt hi
      rw [e1] at H1
      have hA2 := (HA.out.1.below hbw).more hbw.size
      obtain ⟨A2, hA2e, hA2s⟩ := hA2.from_ (fun _ => rfl) (n + 1) c hcap
      have HS := fun W' => (cases_slice A cs.length c n W' (by omega)).trans (congrArg (fun v => Result.ok v W') hA2e)
      have H2 := fun W' (hW : Below W.heap.size W W') => cases_idx_any 68 #[.pointer (some ⟨b, 0, none⟩)] A2 (c - (n + 1)) (cs.drop (n + 1)) p W' ent_gloss2 (by simp; omega) ((hA2s.below hW).more hW.size) (fun t ht W'' hW'' => HG t (List.mem_of_mem_drop ht) W'' (hW.trans (hW''.mono hW.size)))
      simp only [List.length_drop] at H2
      have H2 := fun W' (hW : Below W.heap.size W W') => Lib.hid (H2 W' hW)
      have HE1 := Lib.hid e1
      clear e1 hi HG hA2 hA2s hA2e
      rcases Decidable.em (0 ≤ firstIdx p (cs.drop (n + 1))) with hi | hi
      · obtain ⟨m, hm, e2⟩ := firstIdx_lt hi
        rw [e2] at H2
        simp only [List.length_drop] at hm
        have HG := Lib.hid (glAt_two (s := s) (kind := kind) (cs := cs) (k := k) (hp ▸ HE1.out) (hp ▸ e2) (by omega))
        clear e2 hi hp hcs
        gi_wp2
        refine ⟨trivial, (CallsIn.inRound l (callsIn_wide.2 H1.out)).mono ?_⟩
        rintro e w' ⟨rfl, hb3⟩
        have HB3 := Lib.hid hb3
        clear hb3 k1 k2
        have hbx : Below Wl.heap.size Wl w' := hb2.trans (HB3.out.mono hb2.size)
        have n6 := g6.below hbx (by omega); have n7 := g7.below hbx (by omega); have n8 := g8.below hbx (by omega); have n9 := g9.below hbx (by omega)
        have e6 := n6.cell 0; have e7 := n7.cell 0; have e8 := n8.cell 0; have e9 := n9.cell 0
        have f6 := n6.free 0; have f7 := n7.free 0; have f8 := n8.free 0; have f9 := n9.free 0
        simp at e6 e7 e8 e9
        have N6 := Lib.hid n6; have N7 := Lib.hid n7; have N8 := Lib.hid n8; have N9 := Lib.hid n9
        clear n6 n7 n8 n9
        have k1 := (gk.below hbx (by omega)).cell 0; have k2 := (gc.below hbx (by omega)).cell 0
        simp at k1 k2
        gi_wp2
        refine ⟨trivial, (CallsIn.inRound l (callsIn_wide.2 (H2 _ HB3.out).out)).mono ?_⟩
        rintro e w'' ⟨rfl, hb4⟩
        have HB4 := Lib.hid (HB3.out.trans (hb4.mono HB3.out.size))
        clear hb4 k1 k2 e6 e7 e8 e9 f6 f7 f8 f9 N6 N7 N8 N9 hbx
        have hbx : Below Wl.heap.size Wl w'' := hb2.trans (HB4.out.mono hb2.size)
        have n6 := g6.below hbx (by omega); have n7 := g7.below hbx (by omega); have n8 := g8.below hbx (by omega); have n9 := g9.below hbx (by omega)
        have e6 := n6.cell 0; have e7 := n7.cell 0; have e8 := n8.cell 0; have e9 := n9.cell 0
        have f6 := n6.free 0; have f7 := n7.free 0; have f8 := n8.free 0; have f9 := n9.free 0
        simp at e6 e7 e8 e9
        have N6 := Lib.hid n6; have N7 := Lib.hid n7; have N8 := Lib.hid n8; have N9 := Lib.hid n9
        clear n6 n7 n8 n9
        have k1 := (gk.below hbx (by omega)).cell 0; have k2 := (gc.below hbx (by omega)).cell 0
        simp at k1 k2
        gi_wp2
        exact ⟨(keepsFrom_below HB4.out).trans ((((KeepsOthers.setCell _ _ _).from _).trans ((KeepsOthers.setCell _ _ _).from _)).trans (((KeepsOthers.setCell _ _ _).from _).trans ((KeepsOthers.setCell _ _ _).from _))), rfl, k, hk, hno, by rw [HG.out]; rfl,
          ((((hbw.trans (HB4.out.mono hbw.size)).setCell (by first | omega | (simp; omega) | (simp; done)) _).setCell (by first | omega | (simp; omega) | (simp; done)) _).setCell (by first | omega | (simp; omega) | (simp; done)) _).setCell (by first | omega | (simp; omega) | (simp; done)) _,
          ((N6.out.set 0 _ |>.far _ (by first | (simp; done) | (simp; omega)) _).far _ (by first | (simp; done) | (simp; omega)) _).far _ (by first | (simp; done) | (simp; omega)) _, by rw [HG.out]; exact (((N7.out.far _ (by first | (simp; done) | (simp; omega)) _).set 0 _).far _ (by first | (simp; done) | (simp; omega)) _).far _ (by first | (simp; done) | (simp; omega)) _, by rw [HG.out]; exact (((N8.out.far _ (by first | (simp; done) | (simp; omega)) _).far _ (by first | (simp; done) | (simp; omega)) _).set 0 _).far _ (by first | (simp; done) | (simp; omega)) _, (((N9.out.far _ (by first | (simp; done) | (simp; omega)) _).far _ (by first | (simp; done) | (simp; omega)) _).far _ (by first | (simp; done) | (simp; omega)) _).set 0 _⟩
      · have e2 := firstIdx_neg hi
        rw [e2] at H2
        obtain ⟨y, hy, hy2⟩ : ∃ y : Nat, cs[n].says = (y : Int) ∧ y < 20 := by
          have h1 := inB_iff.1 (HCV.out cs[n] (List.getElem_mem hn)).2
          have h2 := V.answers
          exact ⟨cs[n].says.toNat, by omega, by omega⟩
        have HG := Lib.hid (glAt_one (s := s) (kind := kind) (cs := cs) (k := k) (hp ▸ HE1.out) (hp ▸ e2) hn)
        obtain ⟨ab, ao, rfl, hblk, hcell⟩ := ((HA.out.1.below hbw).more hbw.size).at_ (k := n) (fun _ => rfl) hn
        have q1 : W.cell? ⟨ab, ao + n * 2 + 1, none⟩ = some (.int .i64 (y : Int)) := by rw [← hy]; exact hcell 1 _ rfl
        have HY := Lib.hid hy
        have rc := (gr.below hb2 (by omega)).cell
        have r0 := rc 0; have r1 := rc 1; have r2 := rc 2; have r3 := rc 3; have r4 := rc 4; have r5 := rc 5
        simp at r0 r1 r2 r3 r4 r5
        have l1 : rr < W.heap.size := by omega
        have l2 : w.heap.size + 1 < W.heap.size := by omega
        have l3 : w.heap.size + 1 + 1 < W.heap.size := by omega
        clear e2 hi hp hcs hy hcell rc
        gi_wp2
        refine ⟨trivial, (CallsIn.inRound l (callsIn_wide.2 H1.out)).mono ?_⟩
        rintro e w' ⟨rfl, hb3⟩
        have HB3 := Lib.hid hb3
        have hc3 := fun b o (h : b < W.heap.size) => (bcell hb3).1 b o h
        clear hb3
        gi_wp2
        refine ⟨trivial, (CallsIn.inRound l (callsIn_wide.2 (H2 _ HB3.out).out)).mono ?_⟩
        rintro e w'' ⟨rfl, hb4⟩
        have HB4 := Lib.hid (HB3.out.trans (hb4.mono HB3.out.size))
        have hc4 := fun b o (h : b < W.heap.size) => (bcell HB4.out).1 b o h
        clear hb4 hc3
        gi_wp2
        have hsh := pow_mod32 y (by omega)
        have hn0 : (0 : Int) ≤ (n : Int) := by omega
        have hn1 : (n : Int) < (cs.length : Int) := by omega
        have hy0 : (0 : Int) ≤ (y : Int) := by omega
        have hpy : (2 : Nat) ^ y ≤ 2147483648 := pow_le_bset (by omega)
        have HAN := Lib.hid (bset_lt (ansOf s 0 kind (chartL s k)) 20)
        clear hsl hbk HB3 HS HA HCV HRR hln HR0 hlm hcap _hcm vs h40
        by_cases hd : ansN s 0 kind (chartL s k) = 2 ^ y
        · have hq : (((ansN s 0 kind (chartL s k) : Nat) : Int) != (2 : Int) ^ y) = false := by rw [hd]; simp
          have HG2 : Hid (glAt s kind cs k = (0, 0)) := by show _ = _; rw [HG.out, if_pos (by rw [HY.out]; exact hd)]
          clear hd HG
          (refine wpIn_region_ext (by kernel_rfl) (by kernel_rfl) (by kernel_rfl) ?_; (repeat (go_big_quiet_step((first | (go_at_call 57; with_reducible exact Calls.ext_of (HQ.out.apply _ (HB4.out.trans ((Grow.h _).mono HB4.out.size)))) | (go_at_call 56; with_reducible exact Calls.ext_of (HQ.out.speak _ (HB4.out.trans ((Grow.h _).mono HB4.out.size)))) | (go_at_call 55; with_reducible exact Calls.ext_of (HQ.out.say _ (HB4.out.trans ((Grow.h _).mono HB4.out.size)))))))); with_reducible refine wpQuiet_nil ?_; intro w1 hw1; have hb1 := ext_below hw1; clear hw1)
          gi_wp2
          exact ⟨keepsFrom_below (HB4.out.trans (hb1.mono HB4.out.size)), hb2.trans ((HB4.out.trans (hb1.mono HB4.out.size)).mono hb2.size), upto_succ hno (by rw [HG2.out]; rfl)⟩
        · have hq : (((ansN s 0 kind (chartL s k) : Nat) : Int) != (2 : Int) ^ y) = true := by rw [show (2 : Int) ^ y = ((2 ^ y : Nat) : Int) by simp]; simp only [bne_iff_ne, ne_eq]; omega
          have HG2 : Hid (glAt s kind cs k = ((n : Int), 3)) := by show _ = _; rw [HG.out, if_neg (by rw [HY.out]; exact hd)]
          clear hd HG
          (refine wpIn_region_ext (by kernel_rfl) (by kernel_rfl) (by kernel_rfl) ?_; (repeat (go_big_quiet_step((first | (go_at_call 57; with_reducible exact Calls.ext_of (HQ.out.apply _ (HB4.out.trans ((Grow.h _).mono HB4.out.size)))) | (go_at_call 56; with_reducible exact Calls.ext_of (HQ.out.speak _ (HB4.out.trans ((Grow.h _).mono HB4.out.size)))) | (go_at_call 55; with_reducible exact Calls.ext_of (HQ.out.say _ (HB4.out.trans ((Grow.h _).mono HB4.out.size)))))))); with_reducible refine wpQuiet_nil ?_; intro w1 hw1; have hb1 := ext_below hw1; clear hw1)
          have HB5 := Lib.hid (HB4.out.trans (hb1.mono HB4.out.size))
          have HG := HG2
          clear hb1 k1 k2 HG2
          have hbx : Below Wl.heap.size Wl w1 := hb2.trans (HB5.out.mono hb2.size)
          have n6 := g6.below hbx (by omega); have n7 := g7.below hbx (by omega); have n8 := g8.below hbx (by omega); have n9 := g9.below hbx (by omega)
          have e6 := n6.cell 0; have e7 := n7.cell 0; have e8 := n8.cell 0; have e9 := n9.cell 0
          have f6 := n6.free 0; have f7 := n7.free 0; have f8 := n8.free 0; have f9 := n9.free 0
          simp at e6 e7 e8 e9
          have N6 := Lib.hid n6; have N7 := Lib.hid n7; have N8 := Lib.hid n8; have N9 := Lib.hid n9
          clear n6 n7 n8 n9
          have k1 := (gk.below hbx (by omega)).cell 0; have k2 := (gc.below hbx (by omega)).cell 0
          simp at k1 k2
          gi_wp2
          exact ⟨(keepsFrom_below HB5.out).trans ((((KeepsOthers.setCell _ _ _).from _).trans ((KeepsOthers.setCell _ _ _).from _)).trans (((KeepsOthers.setCell _ _ _).from _).trans ((KeepsOthers.setCell _ _ _).from _))), rfl, k, hk, hno, by rw [HG.out]; rfl,
            ((((hbw.trans (HB5.out.mono hbw.size)).setCell (by first | omega | (simp; omega) | (simp; done)) _).setCell (by first | omega | (simp; omega) | (simp; done)) _).setCell (by first | omega | (simp; omega) | (simp; done)) _).setCell (by first | omega | (simp; omega) | (simp; done)) _,
            ((N6.out.set 0 _ |>.far _ (by first | (simp; done) | (simp; omega)) _).far _ (by first | (simp; done) | (simp; omega)) _).far _ (by first | (simp; done) | (simp; omega)) _, by rw [HG.out]; exact (((N7.out.far _ (by first | (simp; done) | (simp; omega)) _).set 0 _).far _ (by first | (simp; done) | (simp; omega)) _).far _ (by first | (simp; done) | (simp; omega)) _, by rw [HG.out]; exact (((N8.out.far _ (by first | (simp; done) | (simp; omega)) _).far _ (by first | (simp; done) | (simp; omega)) _).set 0 _).far _ (by first | (simp; done) | (simp; omega)) _, (((N9.out.far _ (by first | (simp; done) | (simp; omega)) _).far _ (by first | (simp; done) | (simp; omega)) _).far _ (by first | (simp; done) | (simp; omega)) _).set 0 _⟩
    · have e1 := firstIdx_neg hi
      rw [e1] at H1
      have HG := Lib.hid (glAt_none (s := s) (kind := kind) (cs := cs) (k := k) (hp ▸ e1))
      clear e1 hi hp hcs
      gi_wp2
      refine ⟨trivial, (CallsIn.inRound l (callsIn_wide.2 H1.out)).mono ?_⟩
      rintro e w' ⟨rfl, hb3⟩
      have HB3 := Lib.hid hb3
      clear hb3 k1 k2
      have hbx : Below Wl.heap.size Wl w' := hb2.trans (HB3.out.mono hb2.size)
      have n6 := g6.below hbx (by omega); have n7 := g7.below hbx (by omega); have n8 := g8.below hbx (by omega); have n9 := g9.below hbx (by omega)
      have e6 := n6.cell 0; have e7 := n7.cell 0; have e8 := n8.cell 0; have e9 := n9.cell 0
      have f6 := n6.free 0; have f7 := n7.free 0; have f8 := n8.free 0; have f9 := n9.free 0
      simp at e6 e7 e8 e9
      have N6 := Lib.hid n6; have N7 := Lib.hid n7; have N8 := Lib.hid n8; have N9 := Lib.hid n9
      clear n6 n7 n8 n9
      have k1 := (gk.below hbx (by omega)).cell 0; have k2 := (gc.below hbx (by omega)).cell 0
      simp at k1 k2
      gi_wp2
      exact ⟨(keepsFrom_below HB3.out).trans ((((KeepsOthers.setCell _ _ _).from _).trans ((KeepsOthers.setCell _ _ _).from _)).trans (((KeepsOthers.setCell _ _ _).from _).trans ((KeepsOthers.setCell _ _ _).from _))), rfl, k, hk, hno, by rw [HG.out]; rfl,
        ((((hbw.trans (HB3.out.mono hbw.size)).setCell (by first | omega | (simp; omega) | (simp; done)) _).setCell (by first | omega | (simp; omega) | (simp; done)) _).setCell (by first | omega | (simp; omega) | (simp; done)) _).setCell (by first | omega | (simp; omega) | (simp; done)) _,
        ((N6.out.set 0 _ |>.far _ (by first | (simp; done) | (simp; omega)) _).far _ (by first | (simp; done) | (simp; omega)) _).far _ (by first | (simp; done) | (simp; omega)) _, by rw [HG.out]; exact (((N7.out.far _ (by first | (simp; done) | (simp; omega)) _).set 0 _).far _ (by first | (simp; done) | (simp; omega)) _).far _ (by first | (simp; done) | (simp; omega)) _, by rw [HG.out]; exact (((N8.out.far _ (by first | (simp; done) | (simp; omega)) _).far _ (by first | (simp; done) | (simp; omega)) _).set 0 _).far _ (by first | (simp; done) | (simp; omega)) _, (((N9.out.far _ (by first | (simp; done) | (simp; omega)) _).far _ (by first | (simp; done) | (simp; omega)) _).far _ (by first | (simp; done) | (simp; omega)) _).set 0 _⟩
  case hdone =>
    rintro D W ⟨hb', hno⟩ hD hK
    have HN := Lib.hid (firstN_none (N := chartsC s) (p := fun k => (glAt s kind cs k).2 != 0) hno.out)
    have HR : Hid (glossR s kind cs = (-1, -1, 0, 0)) := by show _ = _; rw [HR0.out, if_pos (by show firstN _ _ < 0; rw [HN.out]; omega)]
    have hsz := hb'.size
    have HBW := Lib.hid (hbl.trans (hb'.mono hbl.size))
    have n6 := g6.below hb' (by omega); have n7 := g7.below hb' (by omega); have n8 := g8.below hb' (by omega); have n9 := g9.below hb' (by omega)
    have f6 := n6.free 0; have f7 := n7.free 0; have f8 := n8.free 0; have f9 := n9.free 0
    have e6 := n6.cell 0; have e7 := n7.cell 0; have e8 := n8.cell 0; have e9 := n9.cell 0
    simp at e6 e7 e8 e9
    have N6 := Lib.hid n6; have N7 := Lib.hid n7; have N8 := Lib.hid n8; have N9 := Lib.hid n9
    have HKK := Lib.hid hK
    clear n6 n7 n8 n9 hK hno hb'
    go_wp2
    have hK2 := ((((KeepsOthers.setCell W ⟨w.heap.size + 1 + 1 + 1, 0, none⟩ (.int .i64 (-1))).trans (KeepsOthers.setCell _ ⟨w.heap.size + 1 + 1 + 1 + 1, 0, none⟩ (.int .i64 (-1)))).trans (KeepsOthers.setCell _ ⟨w.heap.size + 1 + 1 + 1 + 1 + 1, 0, none⟩ (.int .i64 0))).trans (KeepsOthers.setCell _ ⟨w.heap.size + 1 + 1 + 1 + 1 + 1 + 1, 0, none⟩ (.int .i64 0))).same D _ HKK.out rfl
    have m6 := (((N6.out.set 0 (.int .i64 (-1)) |>.far ⟨w.heap.size + 1 + 1 + 1 + 1, 0, none⟩ (by first | (simp; done) | (simp; omega)) (.int .i64 (-1))).far ⟨w.heap.size + 1 + 1 + 1 + 1 + 1, 0, none⟩ (by first | (simp; done) | (simp; omega)) (.int .i64 0)).far ⟨w.heap.size + 1 + 1 + 1 + 1 + 1 + 1, 0, none⟩ (by first | (simp; done) | (simp; omega)) (.int .i64 0)).putObj (o' := .deferred none) hK2 rfl
    have m7 := ((((N7.out.far ⟨w.heap.size + 1 + 1 + 1, 0, none⟩ (by first | (simp; done) | (simp; omega)) (.int .i64 (-1))).set 0 (.int .i64 (-1))).far ⟨w.heap.size + 1 + 1 + 1 + 1 + 1, 0, none⟩ (by first | (simp; done) | (simp; omega)) (.int .i64 0)).far ⟨w.heap.size + 1 + 1 + 1 + 1 + 1 + 1, 0, none⟩ (by first | (simp; done) | (simp; omega)) (.int .i64 0)).putObj (o' := .deferred none) hK2 rfl
    have m8 := ((((N8.out.far ⟨w.heap.size + 1 + 1 + 1, 0, none⟩ (by first | (simp; done) | (simp; omega)) (.int .i64 (-1))).far ⟨w.heap.size + 1 + 1 + 1 + 1, 0, none⟩ (by first | (simp; done) | (simp; omega)) (.int .i64 (-1))).set 0 (.int .i64 0)).far ⟨w.heap.size + 1 + 1 + 1 + 1 + 1 + 1, 0, none⟩ (by first | (simp; done) | (simp; omega)) (.int .i64 0)).putObj (o' := .deferred none) hK2 rfl
    have m9 := ((((N9.out.far ⟨w.heap.size + 1 + 1 + 1, 0, none⟩ (by first | (simp; done) | (simp; omega)) (.int .i64 (-1))).far ⟨w.heap.size + 1 + 1 + 1 + 1, 0, none⟩ (by first | (simp; done) | (simp; omega)) (.int .i64 (-1))).far ⟨w.heap.size + 1 + 1 + 1 + 1 + 1, 0, none⟩ (by first | (simp; done) | (simp; omega)) (.int .i64 0)).set 0 (.int .i64 0)).putObj (o' := .deferred none) hK2 rfl
    have x6 := m6.cell 0; have x7 := m7.cell 0; have x8 := m8.cell 0; have x9 := m9.cell 0
    simp at x6 x7 x8 x9
    refine marks_ret1 (v := .tuple #[.int .i64 (-1), .int .i64 (-1), .int .i64 0, .int .i64 0]) rfl hK2 (by simp [results, Try.results27, go_sem, x6, x7, x8, x9]) ?_
    rw [HR.out]
    exact ⟨rfl, below_putObj ((((HBW.out.setCell (by first | omega | (simp; omega) | (simp; done)) _).setCell (by first | omega | (simp; omega) | (simp; done)) _).setCell (by first | omega | (simp; omega) | (simp; done)) _).setCell (by first | omega | (simp; omega) | (simp; done)) _) (by omega) hK2 _⟩
  case hstop =>
    rintro D c W ⟨rfl, k, hk, hno, hyes, hbw, n6, n7, n8, n9⟩ hD hK
    refine wp_ret ?_
    have HN := Lib.hid (firstN_at (p := fun k => (glAt s kind cs k).2 != 0) hk hno.out hyes)
    have HR : Hid (glossR s kind cs = ((k : Int), (glAt s kind cs k).1, (glAt s kind cs k).2, 0)) := by
      show _ = _
      have e : glossN s kind cs = (k : Int) := HN.out
      rw [HR0.out, e, if_neg (by omega), Int.toNat_natCast]
    have m6 := n6.putObj (o' := .deferred none) hK rfl; have m7 := n7.putObj (o' := .deferred none) hK rfl; have m8 := n8.putObj (o' := .deferred none) hK rfl; have m9 := n9.putObj (o' := .deferred none) hK rfl
    have x6 := m6.cell 0; have x7 := m7.cell 0; have x8 := m8.cell 0; have x9 := m9.cell 0
    simp at x6 x7 x8 x9
    refine marks_ret1 (v := .tuple #[.int .i64 (k : Int), .int .i64 (glAt s kind cs k).1, .int .i64 (glAt s kind cs k).2, .int .i64 0]) rfl hK (by simp [results, Try.results27, go_sem, x6, x7, x8, x9]) ?_
    rw [HR.out]
    exact ⟨rfl, below_putObj hbw (by omega) hK _⟩
set_option maxRecDepth 100000 in
set_option maxHeartbeats 4000000 in
theorem gloss_any (s : Sch) (kind : Int) (cs : List Cas) (A : Option Addr) (c : Nat) (w : World) (hcap : cs.length ≤ c) (hcm : c ≤ 1000000000) (hr : s.reads w w.heap.size) (hA : CasRead w w.heap.size A cs) :
    Calls Try.prog 27 #[scv s s.rv, .int .i64 kind, .slice A cs.length c] w (Ret4 (glossR s kind cs) w) := by
  have hlm := hA.2.1
  by_cases vs : schB s = true
  · have V := valid_of hr.oks vs
    have HC := fun W (hW : Below w.heap.size w W) => Lib.hid (chk_any vs W ((hr.below hW).more hW.size))
    have HK := fun W => Lib.hid (isKind_any s s.rv kind W V.kinds.1 V.kinds.2)
    have HI := fun W B (hW : Below w.heap.size w W) (hB : ScBox W B s s.rv) => Lib.hid (cases_any_any 65 #[.pointer (some ⟨B, 0, none⟩)] A c cs (fun c => !casB s c) W ent_gloss1 hlm ((hA.1.below hW).more hW.size)
      (fun t ht W' hW' => gloss1_any s s.rv t B W' V.small V.answers.1 V.answers.2 (((hA.2.2 t ht).below (hW.trans (hW'.mono hW.size))).more (Nat.le_trans hW.size hW'.size)) (hB.below hW' hB.1)))
    by_cases hk : inB kind 0 (s.kinds - 1) = true
    · rw [hk] at HK
      by_cases h40 : cs.length ≤ 40
      · have d40 : decide ((40 : Int) < (cs.length : Int)) = false := by simp; omega
        by_cases hv : cs.all (casB s) = true
        · exact gloss_yes s kind cs A c w hcap hcm hr hA vs hk h40 hv
        · simp only [Bool.not_eq_true] at hv
          have hany : (cs.any fun c => !casB s c) = true := by simpa using hv
          rw [hany] at HI
          have HR : Hid (glossR s kind cs = (0, 0, 0, 4)) := (by simp only [glossR, vs, hk, h40, hv, if_true]; rfl : glossR s kind cs = (0, 0, 0, 4))
          clear hv hany
          go_enter Try.func27, Try.ntmps27
          go_wp2_with fail
          refine ((HC _ (by (repeat (first | exact Below.refl _ _ | assumption | (refine Below.alloc ?_ (by first | omega | (simp; omega) | (simp; done)) _) | (refine Below.setCell ?_ (by first | omega | (simp; omega) | (simp; done)) _) | (refine Below.drew ?_) | (refine belowN ?_ _) | (refine Below.trans ?_ (Below.mono ‹Below _ _ _› (by first | omega | (simp; omega) | (simp; done)))))))).out).mono ?_
          rintro e w1 ⟨rfl, hb1⟩
          have hc1 := fun b o (h : b < w.heap.size + 7) => (bcell hb1).1 b o (by simp; omega)
          have hf1 := fun b o (h : b < w.heap.size + 7) => (bcell hb1).2 b o (by simp; omega)
          have hk1 := fun b (h : b < w.heap.size + 7) => hb1.block b (by simp; omega)
          have hz1 : w.heap.size + 7 ≤ w1.heap.size := (by have := hb1.size; simp at this; omega)
          go_wp2_with fail
          refine ((HK _).out).mono ?_
          rintro e w2 ⟨rfl, hb2⟩
          have hc2 := fun b o (h : b < w.heap.size + 7) => ((bcell hb2).1 b o (by omega)).trans (hc1 b o h)
          have hf2 := fun b o (h : b < w.heap.size + 7) => ((bcell hb2).2 b o (by omega)).trans (hf1 b o h)
          have hk2 := fun b (h : b < w.heap.size + 7) => (hb2.block b (by omega)).trans (hk1 b h)
          have hz2 : w.heap.size + 7 ≤ w2.heap.size := (by have := hb2.size; omega)
          go_wp2_with fail
          refine ((HI _ w.heap.size (by (repeat (first | exact Below.refl _ _ | assumption | (refine Below.alloc ?_ (by first | omega | (simp; omega) | (simp; done)) _) | (refine Below.setCell ?_ (by first | omega | (simp; omega) | (simp; done)) _) | (refine Below.drew ?_) | (refine belowN ?_ _) | (refine Below.trans ?_ (Below.mono ‹Below _ _ _› (by first | omega | (simp; omega) | (simp; done))))))) ⟨by omega, by simp [hc2, go_sem], by simp [hc2, go_sem], by simp [hc2, go_sem], by simp [hc2, go_sem], by simp [hc2, go_sem]⟩).out).mono ?_
          rintro e w3 ⟨rfl, hb3⟩
          have hc3 := fun b o (h : b < w.heap.size + 7) => ((bcell hb3).1 b o (by omega)).trans (hc2 b o h)
          have hf3 := fun b o (h : b < w.heap.size + 7) => ((bcell hb3).2 b o (by omega)).trans (hf2 b o h)
          have hk3 := fun b (h : b < w.heap.size + 7) => (hb3.block b (by omega)).trans (hk2 b h)
          have hz3 : w.heap.size + 7 ≤ w3.heap.size := (by have := hb3.size; omega)
          go_wp2
          refine bodyPost_ret (v := .tuple #[.int .i64 0, .int .i64 0, .int .i64 0, .int .i64 4]) (by simp [results, Try.results27, go_sem, hc3]) rfl ?_
          rw [HR.out]
          exact ⟨rfl, by (repeat (first | exact Below.refl _ _ | assumption | (refine Below.alloc ?_ (by first | omega | (simp; omega) | (simp; done)) _) | (refine Below.setCell ?_ (by first | omega | (simp; omega) | (simp; done)) _) | (refine Below.drew ?_) | (refine belowN ?_ _) | (refine Below.trans ?_ (Below.mono ‹Below _ _ _› (by first | omega | (simp; omega) | (simp; done))))))⟩
      · have d40 : decide ((40 : Int) < (cs.length : Int)) = true := by simp; omega
        have HR : Hid (glossR s kind cs = (0, 0, 0, 5)) := (by simp only [glossR, vs, hk, h40, if_true]; rfl : glossR s kind cs = (0, 0, 0, 5))
        go_enter Try.func27, Try.ntmps27
        go_wp2_with fail
        refine ((HC _ (by (repeat (first | exact Below.refl _ _ | assumption | (refine Below.alloc ?_ (by first | omega | (simp; omega) | (simp; done)) _) | (refine Below.setCell ?_ (by first | omega | (simp; omega) | (simp; done)) _) | (refine Below.drew ?_) | (refine belowN ?_ _) | (refine Below.trans ?_ (Below.mono ‹Below _ _ _› (by first | omega | (simp; omega) | (simp; done)))))))).out).mono ?_
        rintro e w1 ⟨rfl, hb1⟩
        have hc1 := fun b o (h : b < w.heap.size + 7) => (bcell hb1).1 b o (by simp; omega)
        have hf1 := fun b o (h : b < w.heap.size + 7) => (bcell hb1).2 b o (by simp; omega)
        have hk1 := fun b (h : b < w.heap.size + 7) => hb1.block b (by simp; omega)
        have hz1 : w.heap.size + 7 ≤ w1.heap.size := (by have := hb1.size; simp at this; omega)
        go_wp2_with fail
        refine ((HK _).out).mono ?_
        rintro e w2 ⟨rfl, hb2⟩
        have hc2 := fun b o (h : b < w.heap.size + 7) => ((bcell hb2).1 b o (by omega)).trans (hc1 b o h)
        have hf2 := fun b o (h : b < w.heap.size + 7) => ((bcell hb2).2 b o (by omega)).trans (hf1 b o h)
        have hk2 := fun b (h : b < w.heap.size + 7) => (hb2.block b (by omega)).trans (hk1 b h)
        have hz2 : w.heap.size + 7 ≤ w2.heap.size := (by have := hb2.size; omega)
        go_wp2
        refine bodyPost_ret (v := .tuple #[.int .i64 0, .int .i64 0, .int .i64 0, .int .i64 5]) (by simp [results, Try.results27, go_sem, hc2]) rfl ?_
        rw [HR.out]
        exact ⟨rfl, by (repeat (first | exact Below.refl _ _ | assumption | (refine Below.alloc ?_ (by first | omega | (simp; omega) | (simp; done)) _) | (refine Below.setCell ?_ (by first | omega | (simp; omega) | (simp; done)) _) | (refine Below.drew ?_) | (refine belowN ?_ _) | (refine Below.trans ?_ (Below.mono ‹Below _ _ _› (by first | omega | (simp; omega) | (simp; done))))))⟩
    · simp only [Bool.not_eq_true] at hk
      have HR : Hid (glossR s kind cs = (0, 0, 0, 7)) := (by simp only [glossR, vs, hk, if_true]; rfl : glossR s kind cs = (0, 0, 0, 7))
      rw [hk] at HK
      go_enter Try.func27, Try.ntmps27
      go_wp2_with fail
      refine ((HC _ (by (repeat (first | exact Below.refl _ _ | assumption | (refine Below.alloc ?_ (by first | omega | (simp; omega) | (simp; done)) _) | (refine Below.setCell ?_ (by first | omega | (simp; omega) | (simp; done)) _) | (refine Below.drew ?_) | (refine belowN ?_ _) | (refine Below.trans ?_ (Below.mono ‹Below _ _ _› (by first | omega | (simp; omega) | (simp; done)))))))).out).mono ?_
      rintro e w1 ⟨rfl, hb1⟩
      have hc1 := fun b o (h : b < w.heap.size + 7) => (bcell hb1).1 b o (by simp; omega)
      have hf1 := fun b o (h : b < w.heap.size + 7) => (bcell hb1).2 b o (by simp; omega)
      have hk1 := fun b (h : b < w.heap.size + 7) => hb1.block b (by simp; omega)
      have hz1 : w.heap.size + 7 ≤ w1.heap.size := (by have := hb1.size; simp at this; omega)
      go_wp2_with fail
      refine ((HK _).out).mono ?_
      rintro e w2 ⟨rfl, hb2⟩
      have hc2 := fun b o (h : b < w.heap.size + 7) => ((bcell hb2).1 b o (by omega)).trans (hc1 b o h)
      have hf2 := fun b o (h : b < w.heap.size + 7) => ((bcell hb2).2 b o (by omega)).trans (hf1 b o h)
      have hk2 := fun b (h : b < w.heap.size + 7) => (hb2.block b (by omega)).trans (hk1 b h)
      have hz2 : w.heap.size + 7 ≤ w2.heap.size := (by have := hb2.size; omega)
      go_wp2
      refine bodyPost_ret (v := .tuple #[.int .i64 0, .int .i64 0, .int .i64 0, .int .i64 7]) (by simp [results, Try.results27, go_sem, hc2]) rfl ?_
      rw [HR.out]
      exact ⟨rfl, by (repeat (first | exact Below.refl _ _ | assumption | (refine Below.alloc ?_ (by first | omega | (simp; omega) | (simp; done)) _) | (refine Below.setCell ?_ (by first | omega | (simp; omega) | (simp; done)) _) | (refine Below.drew ?_) | (refine belowN ?_ _) | (refine Below.trans ?_ (Below.mono ‹Below _ _ _› (by first | omega | (simp; omega) | (simp; done))))))⟩
  · simp only [Bool.not_eq_true] at vs
    have HC := fun W (hW : Below w.heap.size w W) => Lib.hid (chk_any vs W ((hr.below hW).more hW.size))
    have HR : Hid (glossR s kind cs = (0, 0, 0, 2)) := (by simp only [glossR, vs]; rfl : glossR s kind cs = (0, 0, 0, 2))
    go_enter Try.func27, Try.ntmps27
    go_wp2_with fail
    refine ((HC _ (by (repeat (first | exact Below.refl _ _ | assumption | (refine Below.alloc ?_ (by first | omega | (simp; omega) | (simp; done)) _) | (refine Below.setCell ?_ (by first | omega | (simp; omega) | (simp; done)) _) | (refine Below.drew ?_) | (refine belowN ?_ _) | (refine Below.trans ?_ (Below.mono ‹Below _ _ _› (by first | omega | (simp; omega) | (simp; done)))))))).out).mono ?_
    rintro e w1 ⟨rfl, hb1⟩
    have hc1 := fun b o (h : b < w.heap.size + 7) => (bcell hb1).1 b o (by simp; omega)
    have hf1 := fun b o (h : b < w.heap.size + 7) => (bcell hb1).2 b o (by simp; omega)
    have hk1 := fun b (h : b < w.heap.size + 7) => hb1.block b (by simp; omega)
    have hz1 : w.heap.size + 7 ≤ w1.heap.size := (by have := hb1.size; simp at this; omega)
    go_wp2
    refine bodyPost_ret (v := .tuple #[.int .i64 0, .int .i64 0, .int .i64 0, .int .i64 2]) (by simp [results, Try.results27, go_sem, hc1]) rfl ?_
    rw [HR.out]
    exact ⟨rfl, by (repeat (first | exact Below.refl _ _ | assumption | (refine Below.alloc ?_ (by first | omega | (simp; omega) | (simp; done)) _) | (refine Below.setCell ?_ (by first | omega | (simp; omega) | (simp; done)) _) | (refine Below.drew ?_) | (refine belowN ?_ _) | (refine Below.trans ?_ (Below.mono ‹Below _ _ _› (by first | omega | (simp; omega) | (simp; done))))))⟩
end Go.Proofs.Ytidlmbajpbbilaa

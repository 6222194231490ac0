/- almanac: Plan. -/
import Derived.Test.YtfbnllmmoaialaaGreatBd
import Derived.Test.YtfbnllmmoaialaaGreatZ02Iter
namespace Go.Proofs.YtfbnllmmoaialaaGreat
open Go.RowKit

/-- zeros, one number, what stands behind it -/
theorem mid_at (m : Nat) (x : Int) (cs : List Int) : (List.replicate m 0 ++ x :: cs)[m]? = some x := by
  rw [List.getElem?_append_right (by simp)]; simp
theorem mid_far (m j : Nat) (x : Int) (cs : List Int) : (List.replicate m 0 ++ x :: cs)[m + 1 + j]? = cs[j]? := by
  rw [List.getElem?_append_right (by simp; omega)]
  simp only [List.length_replicate]
  rw [show m + 1 + j - m = j + 1 by omega]; rfl
theorem mid_set (m : Nat) (x y : Int) (cs : List Int) : (List.replicate m 0 ++ x :: cs).set m y = List.replicate m 0 ++ y :: cs := by
  rw [List.set_append_right _ _ (by simp)]; simp
theorem rep_succ (m : Nat) (cs : List Int) : List.replicate (m + 1) 0 ++ cs = List.replicate m 0 ++ 0 :: cs := by
  rw [List.replicate_succ', List.append_assoc]; rfl
theorem cnts_at {g0 g1 T : Int} {L : List Int} {m : Nat} (h : m < L.length) : cnts g0 g1 T (L.drop m) = min (bestOf g0 g1 L[m] (L.drop (m + 1)) (cnts g0 g1 T (L.drop (m + 1))) + 1) T :: cnts g0 g1 T (L.drop (m + 1)) := by
  rw [List.drop_eq_getElem_cons h]; rfl
theorem grown_none {W W' : World} (h : Below W.heap.size W W') : W.grownBy W' none := ⟨h.os, h.tape, h.output, h.size, fun k hk _ => h.block k hk⟩
/-- between two rounds over the days: the plan so far, its last day, what stays to be planned -/
def PlanRel (g0 g1 : Int) (L : List Int) (Z : List (Int × Int)) (Tn n : Nat) (V8 : World) (pl la ix : Value) (w8 : World) : Prop :=
  ∃ (q : Nat) (acc : List Int) (Ap : Option Addr) (cp : Nat) (lz : Int) (ld : Option Int), q ≤ n ∧ ix = .int .i64 (q : Int) ∧ pl = .slice Ap acc.length cp ∧ Hid (w8.ownsRow V8.heap.size 3 1 (.slice Ap acc.length cp) acc.length (acc.map (Value.int .i64))) ∧ Hid (Below V8.heap.size V8 w8) ∧ acc.length < Tn ∧ la = .int .i64 lz ∧
    Hid ((lz = -1 ∧ ld = none) ∨ ∃ r : Nat, ∃ hr : r < L.length, lz = (r : Int) ∧ ld = some L[r]) ∧ Hid (greedy g0 g1 Z none Tn = (greedy g0 g1 (Z.drop q) ld (Tn - acc.length)).map (acc ++ ·))
set_option maxRecDepth 100000 in
set_option maxHeartbeats 16000000 in
theorem plan_ok (x : Alm) (A2 : Option Addr) (c2 : Nat) (rs : List DRl) (s0 s1 g0 g1 T : Int) (w : World) (hl : x.cycles.length ≤ 1000000) (hc : Sl Cyc.cells 2 w w.heap.size x.a x.cycles) (hr : RlsAt w w.heap.size A2 rs) (hv : bothE x rs = 0) (hok : okP s0 s1 g0 g1 T = true) :
    Calls Tryz.prog 21 #[.agg x.cells.toArray, .slice A2 rs.length c2, .agg #[.int .i64 s0, .int .i64 s1], .agg #[.int .i64 g0, .int .i64 g1], .int .i64 T] w (RetSlE (planR x rs s0 s1 g0 g1 T).1 (planR x rs s0 s1 g0 g1 T).2 w) := by
  --T S0
  have HBO := Lib.hid (fun W (hW : Below w.heap.size w W) => both_val (A2 := A2) (c2 := c2) hv W hl ((hc.below hW).more hW.size) ((hr.below hW).more hW.size))
  obtain ⟨hx, h30, hbad⟩ := bothE_zero hv
  have hok2 := hok
  simp only [okP, Bool.and_eq_true, decide_eq_true_eq] at hok2
  obtain ⟨hsp, a1, a2, a3, hT⟩ := hok2
  obtain ⟨t1, t2⟩ := inB_iff.1 hT
  have HSP := Lib.hid (fun W => isSpan_val hsp W)
  have HWI := Lib.hid (fun W => within_val hT W)
  obtain ⟨⟨q1, q2⟩, ⟨q3, q4⟩, q5, q6⟩ := spanB_iff.1 hsp
  have HT0 : Hid (planR x rs s0 s1 g0 g1 T = planS (greedy g0 g1 ((spanL x rs s0 s1).zip (cnts g0 g1 T (spanL x rs s0 s1))) none T.toNat)) := (by unfold planR; rw [if_pos hv, hok, if_pos rfl] : planR x rs s0 s1 g0 g1 T = _)
  have hlen := daysL_len x [⟨none, 0, rs⟩] s0 s1
  have hsort := daysL_sorted x [⟨none, 0, rs⟩] s0 s1
  have hbd := daysL_bd x [⟨none, 0, rs⟩] s0 s1
  have HDY := Lib.hid (fun Ap W => days_any x Ap 1 1 s0 s1 W)
  have HCO := Lib.hid (fun s bs W (hW : Below w.heap.size w W) (gs : Blk W bs #[.slice A2 rs.length c2] 29) (g0 : Blk W s x.cells.toArray 28) (g1 : Blk W (s + 1) #[.slice (some ⟨bs, 0, none⟩) 1 1] 44) (g2 : Blk W (s + 2) #[.int .i64 s0] 3) (g3 : Blk W (s + 3) #[.int .i64 s1] 3) => by
    have h := collect_any (fun b => b < W.heap.size) x [⟨A2, c2, rs⟩] s0 s1 s (some ⟨bs, 0, none⟩) 1 W hx q1 q4 (by omega) (fun p hp r hr => by simp only [List.mem_singleton] at hp; subst hp; exact hbad r hr) (fun b hb => hb)
      ⟨g0.lt, g2.lt, g3.lt, g1.lt, g0, g2, g3, g1, ((hc.below hW).more hW.size).slp (fun b hb => hb), PsP.one ((hr.below hW).more hW.size) (fun b hb => hb) gs gs.lt⟩
    rw [spanL_eq] at h
    exact (h : Calls Tryz.prog 43 #[dayF s] W fun e w' => ∃ v, e = .returned v ∧ w'.ownsRow W.heap.size 3 1 v (spanL x rs s0 s1).length ((spanL x rs s0 s1).map (Value.int .i64)) ∧ Below W.heap.size W w'))
  obtain ⟨L, hL⟩ : ∃ L, L = spanL x rs s0 s1 := ⟨_, rfl⟩
  have hlenL : L.length ≤ 4001 := by rw [hL]; exact Nat.le_trans hlen (by omega)
  have HSO : Hid (L.Pairwise (· < ·)) := by rw [hL]; exact hsort
  have HBD : Hid (∀ d ∈ L, 0 ≤ d ∧ d ≤ 1000000) := fun d hd => by rw [hL] at hd; have := hbd d hd; omega
  rw [← hL] at HT0 HCO
  obtain ⟨rn, hrn⟩ : ∃ n, n = rs.length := ⟨_, rfl⟩
  rw [← hrn] at HBO HCO ⊢
  obtain ⟨PR, hPR⟩ : ∃ p, p = planR x rs s0 s1 g0 g1 T := ⟨_, rfl⟩
  rw [← hPR] at HT0 ⊢
  have d1 : decide (g0 < 1) = false := by simp; omega
  have d2 : decide (g1 < g0) = false := by simp; omega
  have d3 : decide (4000 < g1) = false := by simp; omega
  clear hv hok hsp hT hc hr hx hbad hlen hsort hbd hL hrn hPR
  obtain ⟨A, c, l, ⟨e, b, u⟩, ⟨d, p, f, m, y, s, k⟩⟩ := x
  simp only [Alm.cells] at HBO HDY HCO ⊢
  go_enter Tryz.func21, Tryz.ntmps21
  --T S1
  go_upto_region 6 with (first | (go_at_call 23; refine (HBO.out _ (by (repeat (first | exact Below.refl _ _ | assumption | (refine Below.alloc ?_ (by first | omega | (simp; omega) | (simp; done)) _) | (refine Below.setCell ?_ (by first | omega | (simp; omega) | (simp; done)) _) | (refine Below.drew ?_) | (refine belowN ?_ _) | (refine Below.trans ?_ (Below.mono ‹Below _ _ _› (by first | omega | (simp; omega) | (simp; done)))))))).mono ?_; rintro _ W1 ⟨rfl, hb1⟩; have hw1 : Below w.heap.size w W1 := bl2 (by (repeat (first | exact Below.refl _ _ | assumption | (refine Below.alloc ?_ (by first | omega | (simp; omega) | (simp; done)) _) | (refine Below.setCell ?_ (by first | omega | (simp; omega) | (simp; done)) _) | (refine Below.drew ?_) | (refine belowN ?_ _) | (refine Below.trans ?_ (Below.mono ‹Below _ _ _› (by first | omega | (simp; omega) | (simp; done))))))) hb1; have gs1 : Blk W1 (w.heap.size + 1) #[.int .i64 s0, .int .i64 s1] 67 := ((Blk.at_ (by simp)).alloc _).below hb1 (by first | omega | (simp; omega) | (simp; done)); have gg1 : Blk W1 (w.heap.size + 1 + 1) #[.int .i64 g0, .int .i64 g1] 67 := (Blk.at_ (by simp)).below hb1 (by first | omega | (simp; omega) | (simp; done)); have u0 := gs1.cell 0; have u1 := gs1.cell 1; have u2 := gg1.cell 0; have u3 := gg1.cell 1; simp at u0 u1 u2 u3) | (go_at_call 24; refine (HSP.out _).mono ?_; rintro _ W2 ⟨rfl, hb2⟩; have hw2 := bl2 hw1 hb2; have gs2 := gs1.below hb2 gs1.lt; have gg2 := gg1.below hb2 gg1.lt; have r0 := gs2.cell 0; have r1 := gs2.cell 1; have r2 := gg2.cell 0; have r3 := gg2.cell 1; simp at r0 r1 r2 r3) | (go_at_call 35; (with_reducible refine (HWI.out _).mono ?_); rintro _ _ ⟨rfl, rfl⟩))
  --T S2
  obtain ⟨b5, hb5⟩ : ∃ n, n = w.heap.size := ⟨_, rfl⟩
  have ga : Blk W2 b5 #[.slice A l.length c, .int .i64 e, .int .i64 b, .int .i64 u, .int .i64 d, .int .i64 p, .int .i64 f, .int .i64 m, .int .i64 y, .int .i64 s, .int .i64 k] 28 := ((((Blk.at_ hb5).alloc _).alloc _).below hb1 (by simp; omega)).below hb2 (by have := hb1.size; simp at this; omega)
  rw [← hb5] at gg2 gs2 r0 r1 r2 r3 ⊢
  have hbw : w.heap.size ≤ b5 := by omega
  clear hb5
  (have z0 := ga.cell 0; have z1 := ga.cell 1; have z2 := ga.cell 2; have z3 := ga.cell 3; have z4 := ga.cell 4; have z5 := ga.cell 5; have z6 := ga.cell 6; have z7 := ga.cell 7; have z8 := ga.cell 8; have z9 := ga.cell 9; have z10 := ga.cell 10; simp at z0 z1 z2 z3 z4 z5 z6 z7 z8 z9 z10)
  have h8 := gg2.lt
  have h7 := gs2.lt
  clear hb1 hb2 hw1 gs1 gg1 u0 u1 u2 u3 d1 d2 d3
  go_wp2_with fail
  obtain ⟨bs, hbs⟩ : ∃ n, n = W2.heap.size := ⟨_, rfl⟩
  have gs : Blk (W2.alloc (.cells #[.slice A2 rn c2] 29)) bs #[.slice A2 rn c2] 29 := Blk.at_ hbs
  have hw4 : Below w.heap.size w (W2.alloc (.cells #[.slice A2 rn c2] 29)) := bla hw2
  have gg4 := gg2.alloc (.cells #[.slice A2 rn c2] 29)
  rw [← hbs]
  clear hbs ga z0 z1 z2 z3 z4 z5 z6 z7 z8 z9 z10 r0 r1 r2 r3 gs2 gg2
  generalize W2.alloc (.cells #[.slice A2 rn c2] 29) = W4 at gs hw4 gg4 ⊢
  clear hw2 h8 h7
  refine (HDY.out _ _).mono ?_
  rintro _ W3 ⟨rfl, g0', g1', g2', g3', hb3, -⟩
  have gs := gs.below hb3 gs.lt
  have gg3 := gg4.below hb3 gg4.lt
  have hw3 := bl2 hw4 hb3
  obtain ⟨sz, hsz⟩ : ∃ n, n = W4.heap.size := ⟨_, rfl⟩
  rw [← hsz] at g0' g1' g2' g3' ⊢
  have HFF := Lib.hid (HCO.out _ _ _ hw3 gs g0' g1' g2' g3')
  clear hsz g0' g1' g2' g3' hb3 gs hw4 HCO HDY HBO HSP gg4 HWI
  --T S3
  go_upto_region 7 with (go_at_call 43; refine HFF.out.mono ?_; rintro _ W5 ⟨vv, rfl, hown, hb5⟩; refine Hid.out ?_; obtain ⟨Al, cl, rfl⟩ := own_slice hown; have HOW := Lib.hid hown; have HW5 := Lib.hid (bl2 hw3 hb5); have HGG5 := Lib.hid (gg3.below hb5 gg3.lt); have h85 := HGG5.out.lt; have hW35 := hb5.size; clear hown hb5 gg3 hw3; refine Lib.hid ?_)
  obtain ⟨lb, hlb⟩ : ∃ n, n = W5.heap.size := ⟨_, rfl⟩
  rw [← hlb]
  obtain ⟨i0, hi, iz0, iz1, iz2⟩ := info_parts infoInt
  refine gen_w (fun W => Hid (W.ownsRow W3.heap.size 3 1 (.slice Al L.length cl) L.length (L.map (Value.int .i64))) ∧ Hid (Below w.heap.size w W) ∧ Blk W (b5 + 1 + 1) #[.int .i64 g0, .int .i64 g1] 67 ∧ Blk W lb #[.slice Al L.length cl] 42) ⟨HOW.out.alloc _, HW5.out.alloc (by have := HW5.out.size; omega) _, HGG5.out.alloc _, Blk.at_ hlb⟩ ?_
  have h58 : b5 + 1 + 1 < lb := by omega
  have hwlb : w.heap.size ≤ lb := by have := HW5.out.size; omega
  clear hlb HOW HW5 HGG5 h85 hW35 HFF
  rintro W6 ⟨HOW, HW6, gg6, gl6⟩
  have c6 := gl6.cell 0
  simp at c6
  have hl6 := gl6.lt
  go_wp2_with (at_make; refine wpList_make_arr _ rfl _ _ rfl i0 uInts hi iz0 iz1 iz2 .i64 .i64 _ _ L.length rfl rfl rfl rfl (by omega) ?_; intro W7 ha7 hb7; obtain ⟨bm, hbm⟩ : ∃ n, n = W6.heap.size := ⟨_, rfl⟩; rw [← hbm] at ha7 ⊢; have hlm : lb < bm := (by omega); have gg := gg6.below hb7 gg6.lt; have gl := gl6.below hb7 gl6.lt; have c7 := gl.cell 0; simp at c7; have HSL := Lib.hid (by
    obtain ⟨A', c', e', h'⟩ := Sl.of_own (w := W6) (f := intCell) (l := L) (by rw [flat_int]; exact HOW.out)
    have e2 : Al = A' := by injection e'
    rw [← e2] at h'
    exact (h'.below hb7 : Sl intCell 1 W7 W6.heap.size Al L)); rw [← hbm] at HSL; have HW7 := Lib.hid (bl2 HW6.out hb7); have HARR := Lib.hid ha7; have hb7l := ha7.lt; have HGG := Lib.hid gg; have HGL := Lib.hid gl; clear hbm gg6 gl6 hb7 ha7 HOW HW6 c6 hl6 gg gl; refine Lib.hid ?_)
  have hnL : L.length ≤ 4001 := hlenL
  obtain ⟨n, hn⟩ : ∃ n, n = L.length := ⟨_, rfl⟩
  rw [← hn] at hlenL c7 HARR ⊢
  go_loopw [16, 17] (fun i _ wr => ∃ m : Nat, m ≤ n ∧ i = .int .i64 ((m : Int) - 1) ∧ Hid (W7.grownBy wr (some bm)) ∧ Hid (Arr wr bm (List.replicate m 0 ++ cnts g0 g1 T (L.drop m)))) (fun i _ _ => (intOf i + 1).toNat)
  case atStart => exact ⟨n, Nat.le_refl _, rfl, grownZ _ (Below.refl _ _), by rw [hn, List.drop_of_length_le (Nat.le_refl _)]; show Arr _ _ (_ ++ []); rw [List.append_nil, ← hn]; exact HARR.out⟩
  case round =>
    obtain ⟨m, hm, rfl, hg, ha⟩ := hrel
    have gg := HGG.out.grown hg.out (by intro e; have := Option.some.inj e; omega)
    have gl := HGL.out.grown hg.out (by intro e; have := Option.some.inj e; omega)
    have hsl : Sl intCell 1 wr bm Al L := HSL.out.keep fun p hp => World.cell?_of_block (hg.out.block p.block (by omega) (by intro e; have := Option.some.inj e; omega))
    cases m with
    | zero =>
      --D<st4
      rw [show (((0 : Nat) : Int) - 1) = -1 from rfl]
      have ha0 : Hid (Arr wr bm (cnts g0 g1 T L)) := ha
      have hgr := hg
      have HSL2 := Lib.hid hsl; have HGG2 := Lib.hid gg; have HGL2 := Lib.hid gl; have HN0 := Lib.hid hn
      have c8 := gl.cell 0
      rw [← hn] at c8
      simp at c8
      clear ha hg hsl gg gl hm hn
      obtain ⟨Z, hZ⟩ : ∃ Z, Z = L.zip (cnts g0 g1 T L) := ⟨_, rfl⟩
      have hZl : Z.length = n := by rw [hZ, List.length_zip, cnts_len, HN0.out]; omega
      obtain ⟨Tn, hTn⟩ := Int.eq_ofNat_of_zero_le (show 0 ≤ T by omega)
      have HPR : Hid (PR = planS (greedy g0 g1 Z none Tn)) := (by rw [HT0.out, hZ, hTn, Int.toNat_natCast] : PR = _)
      have HZ := Lib.hid hZ; have HZL := Lib.hid hZl; have HTn := Lib.hid hTn
      have hTn1 : 1 ≤ Tn := by omega
      have hTn2 : Tn ≤ 60 := by omega
      have hTa : (Tn : Int) ≤ T := by omega
      have hTb : T ≤ (Tn : Int) := by omega
      have hbw8 : bm < wr.heap.size := ha0.out.lt
      have hwr : Hid (Below w.heap.size w wr) := below_trans_grown HW7.out hgr.out (by omega)
      clear hZ hZl hTn HT0 c7 HARR
      go_upto_region 21 with fail
      rename World => V8
      --T L0
      go_loopw [18, 19, 20, 134] (fun pl la _ ix w8 => PlanRel g0 g1 L Z Tn n V8 pl la ix w8) (fun _ _ _ ix _ => n - (intOf ix).toNat)
      case atStart => unfold PlanRel; exact ⟨0, [], none, 0, -1, none, by omega, rfl, rfl, World.ownsRow_nil _ _ _ _, Below.refl _ _, by simp; omega, rfl, .inl ⟨rfl, rfl⟩, by show _ = Option.map _ _; simp⟩
      case round =>
        --T L1
        obtain ⟨q, acc, Ap, cp, lz, ld, hq, rfl, rfl, hown, hb8, hacc, rfl, hlast, hgr8⟩ := hrel
        --T L2
        by_cases hqn : q < n
        · have hqL : q < L.length := by have := HN0.out; omega
          have hqC : q < (cnts g0 g1 T L).length := by rw [cnts_len]; exact hqL
          have HZq : Hid (Z.drop q = (L[q], (cnts g0 g1 T L)[q]) :: Z.drop (q + 1)) := (by
            have hz : q < Z.length := by rw [HZL.out]; exact hqn
            rw [List.drop_eq_getElem_cons hz]
            congr 1
            have h1 : Z[q]? = some (L[q], (cnts g0 g1 T L)[q]) := by rw [HZ.out, List.getElem?_zip_eq_some]; exact ⟨List.getElem?_eq_getElem hqL, List.getElem?_eq_getElem hqC⟩
            rw [List.getElem?_eq_getElem hz] at h1
            exact Option.some.inj h1 : Z.drop q = _)
          have hcb := cnts_bd g0 g1 T t1 L _ (List.getElem_mem hqC)
          have cq : wr.cell? ⟨bm, q, none⟩ = some (.int .i64 ((cnts g0 g1 T L)[q])) := Arr.at_ (Blk.below ha0.out hb8.out hbw8) hqC
          have hsl8 : Sl intCell 1 wr bm Al L := HSL2.out.below (hb8.out.mono (by omega))
          obtain ⟨ab, ao, rfl, hab, cd⟩ := hsl8.int_at hqL
          have hdq := HBD.out _ (List.getElem_mem hqL)
          obtain ⟨dq, hdqe⟩ : ∃ d, d = L[q] := ⟨_, rfl⟩
          obtain ⟨cc, hcc⟩ : ∃ c, c = (cnts g0 g1 T L)[q] := ⟨_, rfl⟩
          obtain ⟨kk, hkk⟩ : ∃ kk, Tn - acc.length = kk + 1 := ⟨Tn - acc.length - 1, by omega⟩
          rw [← hdqe, ← hcc] at HZq
          rw [← hdqe] at cd hdq
          rw [← hcc] at cq hcb
          have HST : Hid (greedy g0 g1 Z none Tn = (if decide ((kk : Int) + 1 ≤ cc) && nearB g0 g1 ld dq then (greedy g0 g1 (Z.drop (q + 1)) (some dq) kk).map (dq :: ·) else greedy g0 g1 (Z.drop (q + 1)) ld (kk + 1)).map (acc ++ ·)) := (by rw [hgr8.out, HZq.out, hkk]; rfl : _ = _)
          have HKK := Lib.hid hkk; have HDQ := Lib.hid hdqe
          have w1l : IntKind.i64.wrap (T - (acc.length : Int)) = T - (acc.length : Int) := IntWalk.i64_in _ ⟨by omega, by omega⟩
          have q0 : (0 : Int) ≤ (q : Int) := by omega
          have q1' : (q : Int) < (n : Int) := by omega
          have g8l := (HGL2.out.below hb8.out (by have := HGL2.out.lt; omega)).cell 0
          rw [← HN0.out] at g8l
          simp at g8l
          have HGL8 := Lib.hid (HGL2.out.below hb8.out HGL2.out.lt); have HGG8 := Lib.hid (HGG2.out.below hb8.out HGG2.out.lt); have HSL8 := Lib.hid hsl8
          have hw8s := hb8.out.size
          have hkq : acc.length + (kk + 1) ≤ Tn := by omega
          have hkq2 : Tn ≤ acc.length + (kk + 1) := by omega
          clear hcc hdqe hkk hsl8 hqC hgr8
          --T L3
          by_cases hc1 : T - (acc.length : Int) ≤ cc
          · have dc1 : decide (T - (acc.length : Int) ≤ cc) = true := by simpa using hc1
            have hk1 : decide ((kk : Int) + 1 ≤ cc) = true := by simp; omega
            rw [hk1] at HST
            rcases hlast.out with ⟨rfl, rfl⟩ | ⟨r, hr, rfl, rfl⟩
            · have HST2 : Hid (greedy g0 g1 Z none Tn = (greedy g0 g1 (Z.drop (q + 1)) (some dq) kk).map (fun l => acc ++ dq :: l)) := (by
                rw [HST.out]; simp [Option.map_map, Function.comp_def, nearB] : _ = _)
              clear HST hlast hk1
              have HOX := hown; have HBX := hb8
              --D<p1
              --T z0
              by_cases hk0 : kk = 0
              · have e1 : (((acc.length : Int) + 1) == T) = true := by simp; omega
                have e2 : ((((acc.length + 1 : Nat)) : Int) == T) = true := by simp; omega
                have HE : Hid (PR = (acc ++ [dq], 0)) := (by rw [HPR.out, HST2.out, hk0]; cases Z.drop (q + 1) <;> rfl : PR = _)
                --T a0
                (first | go_upto_region 24 with fail | skip)
                --T a1
                go_wp2_with (at_builtin; refine wpList_append_own _ rfl _ _ 42 rfl V8.heap.size 3 i0 (.int .i64 0) 1 8 uInts hi iz0 iz1 iz2 rfl (by decide) _ _ _ rfl (HOX.out.alloc _) ⟨wr.heap.size, 0, none⟩ 1 1 [.int .i64 dq] rfl rfl (cell_one_new _ _ _) (by simp [Value.oneCell']) (by unfold maxLen; omega) (by omega) (by simp; omega) ?_; intro v' w1 hown1 hgrow _; refine Hid.out ?_; obtain ⟨Ap', cp', rfl⟩ := own_slice hown1; have HO1 := Lib.hid hown1; have HB1 : Hid (Below V8.heap.size V8 w1) := (HBX.out.alloc (by have := HBX.out.size; omega) _).grown hgrow (by have := HBX.out.size; simp; omega) (fun g hg => (HOX.out.lt g hg).1); clear hown1 hgrow; refine Lib.hid ?_)
                --T a2
                refine bodyPost_ret (v := .tuple #[.slice Ap' (acc.length + 1) cp', .int .i64 0]) (by simp [results, Tryz.results21, go_sem]) rfl ?_
                rw [HE.out]
                obtain ⟨A9, c9, e9, h9⟩ := Sl.of_own (f := intCell) (l := acc ++ [dq]) (by rw [flat_int]; simpa using HO1.out)
                have e9' : Ap' = A9 ∧ cp' = c9 := by simpa using e9
                obtain ⟨rfl, rfl⟩ := e9'
                exact ⟨Ap', cp', by simp, h9, fun e => by
                  subst e
                  have := h9.len_pos
                  simp at this, hwr.out.trans (HB1.out.mono hwr.out.size)⟩
              · have e1 : (((acc.length : Int) + 1) == T) = false := by simp; omega
                have e2 : ((((acc.length + 1 : Nat)) : Int) == T) = false := by simp; omega
                have HST3 : Hid (greedy g0 g1 Z none Tn = (greedy g0 g1 (Z.drop (q + 1)) (some dq) (Tn - (acc ++ [dq]).length)).map ((acc ++ [dq]) ++ ·)) := (by
                  rw [HST2.out, List.length_append, List.length_singleton, show Tn - (acc.length + 1) = kk by omega]
                  congr 1; funext l; simp : _ = _)
                --T b0
                (first | go_upto_region 24 with fail | skip)
                --T b1
                go_wp2_with (at_builtin; refine wpList_append_own _ rfl _ _ 42 rfl V8.heap.size 3 i0 (.int .i64 0) 1 8 uInts hi iz0 iz1 iz2 rfl (by decide) _ _ _ rfl (HOX.out.alloc _) ⟨wr.heap.size, 0, none⟩ 1 1 [.int .i64 dq] rfl rfl (cell_one_new _ _ _) (by simp [Value.oneCell']) (by unfold maxLen; omega) (by omega) (by simp; omega) ?_; intro v' w1 hown1 hgrow _; refine Hid.out ?_; obtain ⟨Ap', cp', rfl⟩ := own_slice hown1; have HO1 := Lib.hid hown1; have HB1 : Hid (Below V8.heap.size V8 w1) := (HBX.out.alloc (by have := HBX.out.size; omega) _).grown hgrow (by have := HBX.out.size; simp; omega) (fun g hg => (HOX.out.lt g hg).1); clear hown1 hgrow; refine Lib.hid ?_)
                --T b2
                go_roundw
                --T b3
                case rel => unfold PlanRel; exact ⟨q + 1, acc ++ [dq], Ap', cp', (q : Int), some dq, by omega, by go_num, by simp, (by have := HO1.out; rw [List.length_append, List.length_singleton, List.map_append]; exact this), HB1, by simp; omega, rfl, .inr ⟨q, hqL, rfl, by rw [HDQ.out]⟩, HST3⟩
                case measure => simp [intOf]; omega
              --D>
            · have HPL := Lib.hid (plan1_any lb (b5 + 1 + 1) (some ⟨ab, ao, none⟩) cl L g0 g1 r q wr hr hqL HBD.out HGL8.out (HSL8.out.more (by omega)) HGG8.out)
              have hr0 : decide ((r : Int) < 0) = false := by simp
              cases hin : inB (dq - L[r]) g0 g1 with
              | true =>
                have HST2 : Hid (greedy g0 g1 Z none Tn = (greedy g0 g1 (Z.drop (q + 1)) (some dq) kk).map (fun l => acc ++ dq :: l)) := (by
                  rw [HST.out]; simp [Option.map_map, Function.comp_def, nearB, hin] : _ = _)
                rw [← HDQ.out, hin] at HPL
                clear HST hlast hk1 hin
                go_upto_region 24 with (go_at_call 44; refine HPL.out.mono ?_; rintro _ w2 ⟨rfl, hb2⟩; have HB2 := Lib.hid hb2; clear hb2)
                have HOX : Hid (w2.ownsRow V8.heap.size 3 1 (.slice Ap acc.length cp) acc.length (acc.map (Value.int .i64))) := hown.out.kept (grown_none HB2.out) (by cases h : (Value.slice Ap acc.length cp).ownBlock <;> simp)
                have HBX : Hid (Below V8.heap.size V8 w2) := hb8.out.trans (HB2.out.mono (by omega))
                have hw2s := HB2.out.size
                have c82 := (HGL8.out.below HB2.out HGL8.out.lt).cell 0
                have cd2 : w2.cell? ⟨ab, ao + q, none⟩ = some (.int .i64 dq) := (HB2.out.cell (p := ⟨ab, ao + q, none⟩) (by show ab < wr.heap.size; omega)).trans cd
                rw [← HN0.out] at c82
                simp at c82
                --D<p2
                --T z0
                by_cases hk0 : kk = 0
                · have e1 : (((acc.length : Int) + 1) == T) = true := by simp; omega
                  have e2 : ((((acc.length + 1 : Nat)) : Int) == T) = true := by simp; omega
                  have HE : Hid (PR = (acc ++ [dq], 0)) := (by rw [HPR.out, HST2.out, hk0]; cases Z.drop (q + 1) <;> rfl : PR = _)
                  --T a0
                  (first | go_upto_region 24 with fail | skip)
                  --T a1
                  go_wp2_with (at_builtin; refine wpList_append_own _ rfl _ _ 42 rfl V8.heap.size 3 i0 (.int .i64 0) 1 8 uInts hi iz0 iz1 iz2 rfl (by decide) _ _ _ rfl (HOX.out.alloc _) ⟨w2.heap.size, 0, none⟩ 1 1 [.int .i64 dq] rfl rfl (cell_one_new _ _ _) (by simp [Value.oneCell']) (by unfold maxLen; omega) (by omega) (by simp; omega) ?_; intro v' w1 hown1 hgrow _; refine Hid.out ?_; obtain ⟨Ap', cp', rfl⟩ := own_slice hown1; have HO1 := Lib.hid hown1; have HB1 : Hid (Below V8.heap.size V8 w1) := (HBX.out.alloc (by have := HBX.out.size; omega) _).grown hgrow (by have := HBX.out.size; simp; omega) (fun g hg => (HOX.out.lt g hg).1); clear hown1 hgrow; refine Lib.hid ?_)
                  --T a2
                  refine bodyPost_ret (v := .tuple #[.slice Ap' (acc.length + 1) cp', .int .i64 0]) (by simp [results, Tryz.results21, go_sem]) rfl ?_
                  rw [HE.out]
                  obtain ⟨A9, c9, e9, h9⟩ := Sl.of_own (f := intCell) (l := acc ++ [dq]) (by rw [flat_int]; simpa using HO1.out)
                  have e9' : Ap' = A9 ∧ cp' = c9 := by simpa using e9
                  obtain ⟨rfl, rfl⟩ := e9'
                  exact ⟨Ap', cp', by simp, h9, fun e => by
                    subst e
                    have := h9.len_pos
                    simp at this, hwr.out.trans (HB1.out.mono hwr.out.size)⟩
                · have e1 : (((acc.length : Int) + 1) == T) = false := by simp; omega
                  have e2 : ((((acc.length + 1 : Nat)) : Int) == T) = false := by simp; omega
                  have HST3 : Hid (greedy g0 g1 Z none Tn = (greedy g0 g1 (Z.drop (q + 1)) (some dq) (Tn - (acc ++ [dq]).length)).map ((acc ++ [dq]) ++ ·)) := (by
                    rw [HST2.out, List.length_append, List.length_singleton, show Tn - (acc.length + 1) = kk by omega]
                    congr 1; funext l; simp : _ = _)
                  --T b0
                  (first | go_upto_region 24 with fail | skip)
                  --T b1
                  go_wp2_with (at_builtin; refine wpList_append_own _ rfl _ _ 42 rfl V8.heap.size 3 i0 (.int .i64 0) 1 8 uInts hi iz0 iz1 iz2 rfl (by decide) _ _ _ rfl (HOX.out.alloc _) ⟨w2.heap.size, 0, none⟩ 1 1 [.int .i64 dq] rfl rfl (cell_one_new _ _ _) (by simp [Value.oneCell']) (by unfold maxLen; omega) (by omega) (by simp; omega) ?_; intro v' w1 hown1 hgrow _; refine Hid.out ?_; obtain ⟨Ap', cp', rfl⟩ := own_slice hown1; have HO1 := Lib.hid hown1; have HB1 : Hid (Below V8.heap.size V8 w1) := (HBX.out.alloc (by have := HBX.out.size; omega) _).grown hgrow (by have := HBX.out.size; simp; omega) (fun g hg => (HOX.out.lt g hg).1); clear hown1 hgrow; refine Lib.hid ?_)
                  --T b2
                  go_roundw
                  --T b3
                  case rel => unfold PlanRel; exact ⟨q + 1, acc ++ [dq], Ap', cp', (q : Int), some dq, by omega, by go_num, by simp, (by have := HO1.out; rw [List.length_append, List.length_singleton, List.map_append]; exact this), HB1, by simp; omega, rfl, .inr ⟨q, hqL, rfl, by rw [HDQ.out]⟩, HST3⟩
                  case measure => simp [intOf]; omega
                --D>
              | false =>
                have HST2 : Hid (greedy g0 g1 Z none Tn = (greedy g0 g1 (Z.drop (q + 1)) (some L[r]) (Tn - acc.length)).map (acc ++ ·)) := (by rw [HST.out, HKK.out]; simp [nearB, hin] : _ = _)
                rw [← HDQ.out, hin] at HPL
                have HLS := Lib.hid hlast
                clear HST hlast hk1 hin
                --D<p3
                go_wp2_with (go_at_call 44; refine HPL.out.mono ?_; rintro _ w2 ⟨rfl, hb2⟩; have HB2 := Lib.hid hb2; clear hb2)
                go_roundw
                case rel => unfold PlanRel; exact ⟨q + 1, acc, Ap, cp, (r : Int), some L[r], by omega, by go_num, rfl, hown.out.kept (grown_none HB2.out) (by cases h : (Value.slice Ap acc.length cp).ownBlock <;> simp), hb8.out.trans (HB2.out.mono (by omega)), hacc, rfl, HLS.out.out, HST2⟩
                case measure => simp [intOf]; omega
                --D>
          · have dc1 : decide (T - (acc.length : Int) ≤ cc) = false := by simpa using hc1
            have hk1 : decide ((kk : Int) + 1 ≤ cc) = false := by simp; omega
            rw [hk1] at HST
            have HST2 : Hid (greedy g0 g1 Z none Tn = (greedy g0 g1 (Z.drop (q + 1)) ld (Tn - acc.length)).map (acc ++ ·)) := (by rw [HST.out, HKK.out]; rfl : _ = _)
            clear HST hk1
            go_wp2_with fail
            go_roundw
            case rel => unfold PlanRel; exact ⟨q + 1, acc, Ap, cp, lz, ld, by omega, by go_num, rfl, hown, hb8, hacc, rfl, hlast, HST2⟩
            case measure => simp [intOf]; omega
        · obtain rfl : q = n := by omega
          have HE : Hid (PR = ([], 7)) := (by
            rw [HPR.out, hgr8.out, List.drop_of_length_le (by rw [HZL.out]; exact Nat.le_refl _)]
            obtain ⟨kk, hkk⟩ : ∃ kk, Tn - acc.length = kk + 1 := ⟨Tn - acc.length - 1, by omega⟩
            rw [hkk]; rfl : PR = _)
          go_wp2_with fail
          refine bodyPost_ret (v := .tuple #[.slice none 0 0, .int .i64 7]) (by simp [results, Tryz.results21, go_sem]) rfl ?_
          rw [HE.out]
          exact retSlE_nil (hwr.out.trans (hb8.out.mono hwr.out.size))
      --D>
    | succ m =>
      --D<succ
      rw [show (((m + 1 : Nat) : Int) - 1) = (m : Int) by omega]
      have hmL : m < L.length := by omega
      obtain ⟨ab, ao, rfl, hblk, cd⟩ := hsl.int_at hmL
      have hbd := HBD.out
      have ha2 : Hid (Arr wr bm (List.replicate m 0 ++ bestN g0 g1 L[m] (L.drop (m + 1)) (cnts g0 g1 T (L.drop (m + 1))) 0 :: cnts g0 g1 T (L.drop (m + 1)))) := by
        have := ha.out
        rw [rep_succ] at this
        exact this
      obtain ⟨d, hdd⟩ : ∃ d, d = L[m] := ⟨_, rfl⟩
      obtain ⟨l2, hl2⟩ : ∃ l2, l2 = L.drop (m + 1) := ⟨_, rfl⟩
      have hll : l2.length + (m + 1) = n := by rw [hl2]; simp; omega
      have hcl : (cnts g0 g1 T l2).length = l2.length := cnts_len _ _ _ _
      have hcb := cnts_bd g0 g1 T t1 l2
      have hcT : Hid (cnts g0 g1 T (L.drop m) = min (bestOf g0 g1 d l2 (cnts g0 g1 T l2) + 1) T :: cnts g0 g1 T l2) := by rw [hdd, hl2]; exact cnts_at hmL
      obtain ⟨cs, hcs⟩ : ∃ cs, cs = cnts g0 g1 T l2 := ⟨_, rfl⟩
      have hlK : ∀ j : Nat, l2[j]? = L[m + 1 + j]? := fun j => by rw [hl2, List.getElem?_drop]
      have hso2 : l2.Pairwise (· < ·) := by rw [hl2]; exact HSO.out.drop
      rw [← hdd, ← hl2, ← hcs] at ha2
      rw [← hcs] at hcl hcb hcT
      have HA2 := ha2; have HLK := Lib.hid hlK; have HCB := Lib.hid hcb; have HSO2 := Lib.hid hso2; have HCL := Lib.hid hcl; have HDD := Lib.hid hdd
      have hd01 : 0 ≤ d ∧ d ≤ 1000000 := by rw [hdd]; exact hbd _ (List.getElem_mem _)
      have HG1 := hg
      have hn0 := Lib.hid hn
      have hn1 : n ≤ L.length := by omega
      have hn2 : L.length ≤ n := by omega
      rw [← hn] at gl
      have m0 : (0 : Int) ≤ (m : Int) := by omega
      have m1 : (m : Int) < (n : Int) := by omega
      have w1m : IntKind.i64.wrap ((m : Int) + 1) = (m : Int) + 1 := IntWalk.i64_in _ ⟨by omega, by omega⟩
      have w1t : IntKind.i64.wrap (T - 1) = T - 1 := IntWalk.i64_in _ ⟨by omega, by omega⟩
      have hll1 : l2.length + (m + 1) ≤ n := by omega
      have hll2 : n ≤ l2.length + (m + 1) := by omega
      clear hdd hl2 hcs hcl hcb hlK hso2 ha2 ha hg hsl cd gg gl hbd hn hll
      go_wp2_with fail
      go_loopw [17] (fun k wr => ∃ j K : Nat, K = m + 1 + j ∧ K ≤ n ∧ k = .int .i64 (K : Int) ∧ Hid (W7.grownBy wr (some bm)) ∧ Hid (Arr wr bm (List.replicate m 0 ++ bestN g0 g1 d l2 cs j :: cs))) (fun k _ => n - (intOf k).toNat)
      case atStart => exact ⟨0, m + 1, rfl, by omega, rfl, HG1, HA2⟩
      case round =>
        obtain ⟨j, K, hK, hKn, rfl, hg, ha⟩ := hrel
        have hK1 : K ≤ m + 1 + j := by omega
        have hK2 : m + 1 + j ≤ K := by omega
        have HKK := Lib.hid hK
        clear hK
        have gg := HGG.out.grown hg.out (by intro e; have := Option.some.inj e; omega)
        have gl := HGL.out.grown hg.out (by intro e; have := Option.some.inj e; omega)
        have hsl : Sl intCell 1 wr bm (some ⟨ab, ao, none⟩) L := HSL.out.keep fun p hp => World.cell?_of_block (hg.out.block p.block (by omega) (by intro e; have := Option.some.inj e; omega))
        have ha := ha
        obtain ⟨xb, hxb⟩ : ∃ y, y = bestN g0 g1 d l2 cs j := ⟨_, rfl⟩
        have HXB := Lib.hid hxb
        have hx0 : 0 ≤ xb ∧ xb ≤ T := by rw [hxb]; exact ⟨bestOf_nn _ _ _ _ _, bestOf_le _ _ _ T (by omega) _ _ (fun c hc => (HCB.out c (List.mem_of_mem_take hc)).2)⟩
        rw [← hxb] at ha
        obtain ⟨ab1, ao1, e1, _, cd⟩ := hsl.int_at hmL
        obtain ⟨rfl, rfl⟩ : ab = ab1 ∧ ao = ao1 := by simpa using e1
        rw [← HDD.out] at cd
        have q1 := gg.cell 1; have q0 := gl.cell 0; have cm := ha.out.cell_ (mid_at m xb cs)
        rw [← hn0.out] at q0
        simp at q0 q1
        have bml := ha.out.lt
        have K0 : (0 : Int) ≤ (K : Int) := by omega
        have HGR := hg
        have HLL := Lib.hid gl; have HGGr := Lib.hid gg; have HSr := Lib.hid hsl; have HAr := ha
        clear gg gl hsl hg ha hxb e1
        by_cases hKlt : K < n
        · have dk : decide ((K : Int) < (n : Int)) = true := by simp; omega
          have dk' : decide (K < n) = true := by simp; omega
          have k1 : (K : Int) < (n : Int) := by omega
          have hKL : K < L.length := by omega
          have hjl : j < l2.length := by omega
          obtain ⟨ab2, ao2, e2, _, cy⟩ := HSr.out.int_at hKL
          obtain ⟨rfl, rfl⟩ : ab = ab2 ∧ ao = ao2 := by simpa using e2
          have HY : Hid (l2[j] = L[K]) := (by
            have h := HLK.out j
            rw [← HKK.out, List.getElem?_eq_getElem hjl, List.getElem?_eq_getElem hKL] at h
            exact Option.some.inj h : l2[j] = L[K])
          have hy01 := HBD.out _ (List.getElem_mem hKL)
          obtain ⟨y, hy⟩ : ∃ y, y = L[K] := ⟨_, rfl⟩
          rw [← hy] at cy hy01 HY
          have HYY := Lib.hid hy
          have w1y : IntKind.i64.wrap (y - d) = y - d := IntWalk.i64_in _ ⟨by omega, by omega⟩
          clear hy e2
          by_cases hfar : y - d ≤ g1
          · have df : decide (y - d ≤ g1) = true := by simpa using hfar
            by_cases hmany : xb < T - 1
            · have dm : decide (xb < T - 1) = true := by simpa using hmany
              go_upto_region 13 with fail; (refine wp_region_ext (by kernel_rfl) (by kernel_rfl) ?_; (repeat (go_big_quiet_step(fail))); with_reducible refine wpQuiet_nil ?_; intro w1 hw1; have hb1 := ext_below hw1; clear hw1)
              have HB1 := Lib.hid hb1
              clear hb1
              have hc0 := plan1_any lb (b5 + 1 + 1) (some ⟨ab, ao, none⟩) cl L g0 g1 m K w1 hmL hKL HBD.out (HLL.out.below HB1.out HLL.out.lt) ((HSr.out.below (HB1.out.mono (by omega))).more (by have := HB1.out.size; omega)) (HGGr.out.below HB1.out HGGr.out.lt)
              rw [← HYY.out, ← HDD.out] at hc0
              have HC0 := Lib.hid hc0
              clear hc0
              have hjc : j < cs.length := by rw [HCL.out]; exact hjl
              have hcj : Hid (cs[j]? = some (cs[j])) := (List.getElem?_eq_getElem _ : cs[j]? = _)
              have hcb2 := HCB.out (cs[j]) (List.getElem_mem _)
              have HN : Hid (bestN g0 g1 d l2 cs (j + 1) = max xb (if inB (y - d) g0 g1 then cs[j] else 0)) := (by
                rw [bestN_succ HCL.out.symm hjl, HXB.out, HY.out] : bestN g0 g1 d l2 cs (j + 1) = _)
              obtain ⟨cj, hcje⟩ : ∃ c, c = cs[j] := ⟨_, rfl⟩
              rw [← hcje] at hcj hcb2 HN
              clear hcje
              go_wp2_with fail
              refine HC0.out.mono ?_
              cases hin : inB (y - d) g0 g1 with
              | false =>
                rw [hin] at HN
                rintro _ w2 ⟨rfl, hb2⟩
                have HB2 := Lib.hid (bl2 HB1.out hb2)
                have HNB : Hid (bestN g0 g1 d l2 cs (j + 1) = xb) := (by
                  rw [HN.out, if_neg (by simp)]; omega : bestN g0 g1 d l2 cs (j + 1) = xb)
                have AR2 : Hid (Arr w2 bm (List.replicate m 0 ++ xb :: cs)) := Blk.below HAr.out HB2.out bml
                clear hb2
                go_wp2_with fail
                go_roundw
                case rel => exact ⟨j + 1, K + 1, by rw [HKK.out]; omega, by omega, by go_num, grown_below HGR.out HB2.out, by rw [HNB.out]; exact AR2.out⟩
                case measure => simp [intOf]; omega
              | true =>
                rw [hin] at HN
                rintro _ w2 ⟨rfl, hb2⟩
                have HB2 := Lib.hid (bl2 HB1.out hb2)
                have arr2 : Arr w2 bm (List.replicate m 0 ++ xb :: cs) := Blk.below HAr.out HB2.out bml
                have cm2 := arr2.cell_ (mid_at m xb cs)
                have cK2 : w2.cell? ⟨bm, K, none⟩ = some (.int .i64 cj) := arr2.cell_ (by rw [HKK.out, mid_far]; exact hcj.out)
                have AR2 := Lib.hid arr2
                clear hb2 arr2
                go_upto_region 16 with fail
                refine wp_region_tail 12 (by kernel_rfl) (by kernel_rfl) ?_
                simp only [List.take_succ_cons, List.take_zero, List.drop_succ_cons, List.drop_zero]
                (repeat (go_big_quiet_step (fail)))
                with_reducible refine wpQuiet_nil ?_
                intro w3 hw3
                have hb3 := ext_below hw3
                clear hw3
                obtain ⟨nb, hnb⟩ : ∃ z, z = (if xb < cj then cj else xb) := ⟨_, rfl⟩
                rw [← hnb]
                have HNB : Hid (bestN g0 g1 d l2 cs (j + 1) = nb) := (by
                  rw [HN.out, hnb, if_pos trivial]; split <;> omega : bestN g0 g1 d l2 cs (j + 1) = nb)
                have HB3 := Lib.hid (bl2 HB2.out hb3)
                have ar3 : Arr w3 bm (List.replicate m 0 ++ xb :: cs) := Blk.below AR2.out hb3 AR2.out.lt
                have cm3 := ar3.cell_ (mid_at m xb cs)
                have fm3 := ar3.free m
                have HAR3 : Hid (Arr (w3.setCell ⟨bm, m, none⟩ (.int .i64 nb)) bm (List.replicate m 0 ++ nb :: cs)) := by have := ar3.put m nb; rwa [mid_set] at this
                clear hb3 ar3 hnb cm2 cK2
                go_wp2_with fail
                go_roundw
                case rel => exact ⟨j + 1, K + 1, by rw [HKK.out]; omega, by omega, by go_num, grown_setZ (grown_below HGR.out HB3.out) _, by rw [HNB.out]; exact HAR3.out⟩
                case measure => simp [intOf]; omega
            · have dm : decide (xb < T - 1) = false := by simpa using hmany
              have HF : Hid (min (xb + 1) T = min (bestOf g0 g1 d l2 cs + 1) T) := (by
                have h1 := bestN_mono (g0 := g0) (g1 := g1) (d := d) HCL.out.symm (Nat.le_of_lt hjl)
                rw [bestN_all HCL.out.symm (Nat.le_refl _), ← HXB.out] at h1
                omega : min (xb + 1) T = _)
              go_upto_region 13 with fail; (refine wp_region_ext (by kernel_rfl) (by kernel_rfl) ?_; (repeat (go_big_quiet_step(fail))); with_reducible refine wpQuiet_nil ?_; intro w1 hw1; have hb1 := ext_below hw1; clear hw1)
              have HB1 := Lib.hid hb1
              clear hb1
              have ar1 : Arr w1 bm (List.replicate m 0 ++ xb :: cs) := Blk.below HAr.out HB1.out bml
              have cm1 := ar1.cell_ (mid_at m xb cs)
              have fm1 := ar1.free m
              have w1x : IntKind.i64.wrap (xb + 1) = xb + 1 := IntWalk.i64_in _ ⟨by omega, by omega⟩
              have AR1 := Lib.hid ar1
              clear ar1
              go_upto_region 11 with fail
              obtain ⟨nb, hnb⟩ : ∃ z, z = (if T < xb + 1 then T else xb + 1) := ⟨_, rfl⟩
              rw [← hnb]
              have HNB : Hid (cnts g0 g1 T (L.drop m) = nb :: cs) := (by
                have h1 : nb = min (xb + 1) T := by rw [hnb]; split <;> omega
                rw [hcT.out, ← HF.out, ← h1] : cnts g0 g1 T (L.drop m) = nb :: cs)
              have HAR3 : Hid (Arr (w1.setCell ⟨bm, m, none⟩ (.int .i64 nb)) bm (List.replicate m 0 ++ nb :: cs)) := by have := AR1.out.put m nb; rwa [mid_set] at this
              clear hnb cm1 fm1
              go_wp2_with fail
              go_roundw
              case rel => exact ⟨m, by omega, rfl, grown_setZ (grown_below HGR.out HB1.out) _, by rw [HNB.out]; exact HAR3.out⟩
              case measure => simp [intOf]
          · have df : decide (y - d ≤ g1) = false := by simpa using hfar
            have HF : Hid (min (xb + 1) T = min (bestOf g0 g1 d l2 cs + 1) T) := (by
              rw [HXB.out, bestN_far HCL.out.symm HSO2.out hjl (by rw [HY.out]; omega) (fun c hc => by have := (HCB.out c hc).1; omega)] : min (xb + 1) T = _)
            go_upto_region 13 with fail; (refine wp_region_ext (by kernel_rfl) (by kernel_rfl) ?_; (repeat (go_big_quiet_step(fail))); with_reducible refine wpQuiet_nil ?_; intro w1 hw1; have hb1 := ext_below hw1; clear hw1)
            have HB1 := Lib.hid hb1
            clear hb1
            have ar1 : Arr w1 bm (List.replicate m 0 ++ xb :: cs) := Blk.below HAr.out HB1.out bml
            have cm1 := ar1.cell_ (mid_at m xb cs)
            have fm1 := ar1.free m
            have w1x : IntKind.i64.wrap (xb + 1) = xb + 1 := IntWalk.i64_in _ ⟨by omega, by omega⟩
            have AR1 := Lib.hid ar1
            clear ar1
            go_upto_region 11 with fail
            obtain ⟨nb, hnb⟩ : ∃ z, z = (if T < xb + 1 then T else xb + 1) := ⟨_, rfl⟩
            rw [← hnb]
            have HNB : Hid (cnts g0 g1 T (L.drop m) = nb :: cs) := (by
              have h1 : nb = min (xb + 1) T := by rw [hnb]; split <;> omega
              rw [hcT.out, ← HF.out, ← h1] : cnts g0 g1 T (L.drop m) = nb :: cs)
            have HAR3 : Hid (Arr (w1.setCell ⟨bm, m, none⟩ (.int .i64 nb)) bm (List.replicate m 0 ++ nb :: cs)) := by have := AR1.out.put m nb; rwa [mid_set] at this
            clear hnb cm1 fm1
            go_wp2_with fail
            go_roundw
            case rel => exact ⟨m, by omega, rfl, grown_setZ (grown_below HGR.out HB1.out) _, by rw [HNB.out]; exact HAR3.out⟩
            case measure => simp [intOf]
        · have dk : decide ((K : Int) < (n : Int)) = false := by simp; omega
          have dk' : decide (K < n) = false := by simp; omega
          have HF : Hid (min (xb + 1) T = min (bestOf g0 g1 d l2 cs + 1) T) := (by rw [HXB.out, bestN_all HCL.out.symm (by omega)] : min (xb + 1) T = _)
          go_upto_region 13 with fail; (refine wp_region_ext (by kernel_rfl) (by kernel_rfl) ?_; (repeat (go_big_quiet_step(fail))); with_reducible refine wpQuiet_nil ?_; intro w1 hw1; have hb1 := ext_below hw1; clear hw1)
          have HB1 := Lib.hid hb1
          clear hb1
          have ar1 : Arr w1 bm (List.replicate m 0 ++ xb :: cs) := Blk.below HAr.out HB1.out bml
          have cm1 := ar1.cell_ (mid_at m xb cs)
          have fm1 := ar1.free m
          have w1x : IntKind.i64.wrap (xb + 1) = xb + 1 := IntWalk.i64_in _ ⟨by omega, by omega⟩
          have AR1 := Lib.hid ar1
          clear ar1
          go_upto_region 11 with fail
          obtain ⟨nb, hnb⟩ : ∃ z, z = (if T < xb + 1 then T else xb + 1) := ⟨_, rfl⟩
          rw [← hnb]
          have HNB : Hid (cnts g0 g1 T (L.drop m) = nb :: cs) := (by
            have h1 : nb = min (xb + 1) T := by rw [hnb]; split <;> omega
            rw [hcT.out, ← HF.out, ← h1] : cnts g0 g1 T (L.drop m) = nb :: cs)
          have HAR3 : Hid (Arr (w1.setCell ⟨bm, m, none⟩ (.int .i64 nb)) bm (List.replicate m 0 ++ nb :: cs)) := by have := AR1.out.put m nb; rwa [mid_set] at this
          clear hnb cm1 fm1
          go_wp2_with fail
          go_roundw
          case rel => exact ⟨m, by omega, rfl, grown_setZ (grown_below HGR.out HB1.out) _, by rw [HNB.out]; exact HAR3.out⟩
          case measure => simp [intOf]
      --D>
end Go.Proofs.YtfbnllmmoaialaaGreat

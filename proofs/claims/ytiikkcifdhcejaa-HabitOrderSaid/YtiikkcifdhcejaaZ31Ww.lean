/- habit: scores compared by their numbers; slices.SortStableFunc at 20 elements or fewer. -/
import Derived.Test.YtiikkcifdhcejaaWs
import Derived.Test.YtiikkcifdhcejaaWp
import Derived.Test.YtiikkcifdhcejaaZ30PyA
import Derived.Test.YtiikkcifdhcejaaHeldT
namespace Go.Proofs.Ytiikkcifdhcejaa
open Go.RowKit

/-- a score, as two slices -/
structure Sco where
  A : Option Addr
  n : Nat
  c : Nat
  A2 : Option Addr
  n2 : Nat
  c2 : Nat
def Sco.cells (x : Sco) : List Value := [.slice x.A x.n x.c, .slice x.A2 x.n2 x.c2]
def Sco.val (x : Sco) : Value := .agg #[.slice x.A x.n x.c, .slice x.A2 x.n2 x.c2]
/-- scores in memory; block g holds none of them -/
structure RkS (b7 : Nat) (As : Option Addr) (cs : Nat) (scs : List Sco) (P Q : Nat → Nat) (len g : Nat) (W : World) : Prop where
  k7 : Blk W b7 #[.slice As scs.length cs] 118
  sl : Sl Sco.cells 2 W W.heap.size As scs
  sc : ∀ i (h : i < scs.length), ScV (P i) (Q i) len 0 scs[i].val W
  av : ∀ i (h : i < scs.length), ScAv (fun r => r = g) scs[i].val
  n7 : g ≠ b7
  ns : ∀ ad, As = some ad → ad.block ≠ g
theorem RkS.below {b7 : Nat} {As : Option Addr} {cs : Nat} {scs : List Sco} {P Q : Nat → Nat} {len g : Nat} {W W' : World} (h : RkS b7 As cs scs P Q len g W) (hb : Below W.heap.size W W') : RkS b7 As cs scs P Q len g W' :=
  ⟨h.k7.below hb h.k7.lt, (h.sl.below hb).more hb.size, fun i hi => ScV.stays _ _ _ (h.sc i hi) hb, h.av, h.n7, h.ns⟩
theorem RkS.put {b7 : Nat} {As : Option Addr} {cs : Nat} {scs : List Sco} {P Q : Nat → Nat} {len g : Nat} {W : World} (h : RkS b7 As cs scs P Q len g W) (j : Nat) (v : Value) : RkS b7 As cs scs P Q len g (W.setCell ⟨g, j, none⟩ v) := by
  refine ⟨h.k7.far ⟨g, j, none⟩ (Ne.symm h.n7) v, ⟨h.sl.1, fun hn => ?_⟩, fun i hi => ?_, h.av, h.n7, h.ns⟩
  · obtain ⟨b, o, e, hb, hc⟩ := h.sl.2 hn
    refine ⟨b, o, e, by simpa using hb, fun k u hu => ?_⟩
    exact (World.cell?_setCell_far _ _ _ _ (by have := h.ns _ e; simp at this ⊢; omega)).trans (hc k u hu)
  · exact (h.sc i hi).grownP (h.av i hi) (grown_set W ⟨g, j, none⟩ v) (fun r e => .inl (by cases e; rfl))
theorem Sco.at_ {W : World} {B : Nat} {As : Option Addr} {scs : List Sco} (h : Sl Sco.cells 2 W B As scs) {k : Nat} (hk : k < scs.length) : ∃ b o, As = some ⟨b, o, none⟩ ∧ b < B ∧ W.cell? ⟨b, o + k * 2, none⟩ = some (.slice scs[k].A scs[k].n scs[k].c) ∧ W.cell? ⟨b, o + k * 2 + 1, none⟩ = some (.slice scs[k].A2 scs[k].n2 scs[k].c2) := by
  obtain ⟨b, o, e, hb, hc⟩ := h.at_ (fun _ => rfl) hk
  exact ⟨b, o, e, hb, by have := hc 0 _ rfl; simpa using this, by have := hc 1 _ rfl; simpa using this⟩
set_option maxRecDepth 100000 in
set_option maxHeartbeats 4000000 in
theorem rank1_any {b7 : Nat} {As : Option Addr} {cs : Nat} {scs : List Sco} {P Q : Nat → Nat} {len g : Nat} (hlen : len ≤ 1000000) (i k : Nat) (hi : i < scs.length) (hk : k < scs.length) (W : World) (h : RkS b7 As cs scs P Q len g W) :
    Calls Try.prog 73 (#[.int .i64 (i : Int), .int .i64 (k : Int)] ++ #[.pointer (some ⟨b7, 0, none⟩)]) W fun e W' => e = .returned (.int .i64 (cmpN (P k * Q i) (P i * Q k))) ∧ Below W.heap.size W W' := by
  have z7 := h.k7.cell 0
  simp at z7
  have gl := h.k7.lt
  obtain ⟨b, o, rfl, hb, ci, ci2⟩ := Sco.at_ h.sl hi
  obtain ⟨b', o', e', hb', ck, ck2⟩ := Sco.at_ h.sl hk
  cases e'
  have HC := Lib.hid (fun W' (hW : Below W.heap.size W W') => scCmp_any (P k) (Q k) (P i) (Q i) len scs[k].val scs[i].val 0 0 W' hlen (ScV.stays _ _ _ (h.sc k hk) hW) (ScV.stays _ _ _ (h.sc i hi) hW))
  unfold Sco.val at HC
  obtain ⟨x, hx⟩ : ∃ x, x = scs[i] := ⟨_, rfl⟩
  obtain ⟨y, hy⟩ : ∃ y, y = scs[k] := ⟨_, rfl⟩
  rw [← hx] at ci ci2 HC
  rw [← hy] at ck ck2 HC
  obtain ⟨v, hv⟩ : ∃ v, v = cmpN (P k * Q i) (P i * Q k) := ⟨_, rfl⟩
  rw [← hv] at HC ⊢
  have i0 : (0 : Int) ≤ (i : Int) := by omega
  have i1 : (i : Int) < (scs.length : Int) := by omega
  have k0 : (0 : Int) ≤ (k : Int) := by omega
  have k1 : (k : Int) < (scs.length : Int) := by omega
  have hw2 : Below W.heap.size W W := Below.refl _ _
  clear h hx hy hv
  go_enter Try.func73, Try.ntmps73
  go_wp2
  (refine wp_region_ext (by kernel_rfl) (by kernel_rfl) ?_; (repeat (go_big_quiet_step((first | (go_at_call 42; exact Calls.ext_of (HC.out _ (bl_ext0 hw2 _))) | fail)))); with_reducible refine wpQuiet_nil ?_; intro w1 hw1; have hb1 := ext_below hw1; clear hw1)
  go_wp2
  go_ret
  exact ⟨rfl, hb1⟩
/-- a block that begins with numbers -/
def OrdB (W : World) (g : Nat) (L : List Nat) (rest : List Value) : Prop := Blk W g ((L.map fun (x : Nat) => Value.int .i64 (x : Int)) ++ rest).toArray 3
theorem OrdB.at_ {W : World} {g : Nat} {L : List Nat} {rest : List Value} (h : OrdB W g L rest) {j : Nat} (hj : j < L.length) : W.cell? ⟨g, j, none⟩ = some (.int .i64 ((L.getD j 0 : Nat) : Int)) ∧ W.frozen? ⟨g, j, none⟩ = false := by
  have h1 := Blk.cell h j
  have h2 := Blk.free h j
  refine ⟨?_, h2⟩
  rw [h1, List.getElem?_toArray, List.getElem?_append_left (by rw [List.length_map]; exact hj), List.getElem?_map, List.getElem?_eq_getElem hj, List.getD_eq_getElem?_getD, List.getElem?_eq_getElem hj]
  rfl
theorem OrdB.put {W : World} {g : Nat} {L : List Nat} {rest : List Value} (h : OrdB W g L rest) {j : Nat} (hj : j < L.length) (x : Nat) : OrdB (W.setCell ⟨g, j, none⟩ (.int .i64 (x : Int))) g (L.set j x) rest := by
  have := Blk.set h j (.int .i64 (x : Int))
  unfold OrdB
  rw [List.map_set]
  rw [show ((L.map fun (x : Nat) => Value.int .i64 (x : Int)).set j (.int .i64 (x : Int)) ++ rest).toArray = (((L.map fun (x : Nat) => Value.int .i64 (x : Int)) ++ rest).toArray).setIfInBounds j (.int .i64 (x : Int)) by rw [List.setIfInBounds_toArray, List.set_append_left _ _ (by rw [List.length_map]; exact hj)]]
  exact this
theorem ins_triv (data : Value) (a b : Int) (F : Value) (w : World) (h : b ≤ a + 1) (ha : -1000000 ≤ a ∧ a ≤ 1000000) : Calls Try.prog 103 #[data, .int .i64 a, .int .i64 b, F] w fun e w' => e = .returned (.tuple #[]) ∧ w = w' := by
  have d : decide (a + 1 < b) = false := decide_eq_false (by omega)
  have wa : IntKind.i64.wrap (a + 1) = a + 1 := IntWalk.i64_in _ ⟨by omega, by omega⟩
  go_enter Try.func103, Try.ntmps103
  go_wp2
  go_loop [8] (fun iv => iv = .int .i64 (a + 1)) (fun _ => 0)
  case atStart => rfl
  case round =>
    obtain rfl := hrel
    go_wp2
    go_end0
    exact ⟨rfl, rfl⟩
theorem set2_app {A D : List Nat} {k x o : Nat} (h : k + 1 < A.length) : ((A ++ D).set (k + 1) o).set k x = (A.set (k + 1) o).set k x ++ D := by
  rw [List.set_append_left _ _ h, List.set_append_left _ _ (by rw [List.length_set]; omega)]
theorem insAt_yes {f : Nat → Bool} {k : Nat} (h : f k = true) : insAt f (k + 1) = insAt f k := by simp only [insAt]; rw [if_pos h]
theorem insAt_no {f : Nat → Bool} {k : Nat} (h : f k = false) : insAt f (k + 1) = k + 1 := by simp only [insAt]; rw [if_neg (by rw [h]; simp)]
set_option maxRecDepth 100000 in
set_option maxHeartbeats 4000000 in
theorem insr_any (G : Nat) (cb : Array Value) (hG : Ent G) (n g cap : Nat) (rest : List Value) (cv : Nat → Nat → Int) (J : World → Prop) (hn : 1 ≤ n) (hn2 : n ≤ 20) (hcap : n ≤ cap)
    (hJb : ∀ W W', J W → Below W.heap.size W W' → J W') (hJp : ∀ W j v, J W → J (W.setCell ⟨g, j, none⟩ v))
    (HF : ∀ x o : Nat, x < n → o < n → ∀ W, J W → Calls Try.prog G (#[.int .i64 (x : Int), .int .i64 (o : Int)] ++ cb) W fun e W' => e = .returned (.int .i64 (cv x o)) ∧ Below W.heap.size W W')
    (B : Nat) (w : World) (hB : B ≤ g) (hBw : B ≤ w.heap.size) (hJ : J w) (ho : OrdB w g (List.range n) rest) :
    Calls Try.prog 103 #[.slice (some ⟨g, 0, none⟩) n cap, .int .i64 0, .int .i64 (n : Int), .func (.func G) #[] cb] w fun e w' => e = .returned (.tuple #[]) ∧ J w' ∧ OrdB w' g (rankL (fun o x => decide (cv x o < 0)) n) rest ∧ Below B w w' := by
  obtain ⟨c, hc⟩ : ∃ c : Nat → Nat → Bool, c = fun o x => decide (cv x o < 0) := ⟨_, rfl⟩
  rw [← hc]
  have HC := Lib.hid hc
  have HJB := Lib.hid hJb; have HJP := Lib.hid hJp; have HFF := Lib.hid HF
  unfold Ent at hG
  have o1 : OrdB w g (ordL c n 1) rest := by
    have e : ordL c n 1 = List.range n := by
      rw [show (1 : Nat) = 0 + 1 from rfl, ← ordL_succ]
      simp only [insAt, rankL, midL]
      obtain ⟨m, rfl⟩ : ∃ m, n = m + 1 := ⟨n - 1, by omega⟩
      rw [List.range_succ_eq_map]
      simp
    rw [e]; exact ho
  have HO := Lib.hid o1; have HJ := Lib.hid hJ
  clear ho o1 hJ hc hJb hJp HF
  go_enter Try.func103, Try.ntmps103
  go_wp2
  go_loopw [8] (fun iv W => ∃ i : Nat, 1 ≤ i ∧ i ≤ n ∧ iv = .int .i64 (i : Int) ∧ Hid (J W) ∧ Hid (OrdB W g (ordL c n i) rest) ∧ Hid (Below B w W)) (fun iv _ => n - (intOf iv).toNat)
  case atStart => exact ⟨1, by omega, by omega, rfl, HJ, HO, Lib.hid (Below.refl _ _)⟩
  case round =>
    clear HJ HO
    obtain ⟨i, hi1, hi, rfl, HJ, HO, HW⟩ := hrel
    by_cases hlt : i < n
    · have HO : Hid (OrdB wr g (midL (rankL c i) i i ++ (List.range n).drop (i + 1)) rest) := (by have := HO.out; rw [ordL_mid hlt] at this; exact this : _)
      have hrl := rankL_len c i
      have HRL := Lib.hid hrl
      have HRB := Lib.hid (rankL_lt c i)
      have i0 : (0 : Int) ≤ (i : Int) := by omega
      have i1 : (i : Int) < (n : Int) := by omega
      clear hrl
      go_wp2
      go_loopw [9] (fun jv W => ∃ j : Nat, j ≤ i ∧ jv = .int .i64 (j : Int) ∧ Hid (J W) ∧ Hid (OrdB W g (midL (rankL c i) i j ++ (List.range n).drop (i + 1)) rest) ∧ Hid (insAt (fun t => c ((rankL c i).getD t 0) i) i = insAt (fun t => c ((rankL c i).getD t 0) i) j) ∧ Hid (Below B w W)) (fun jv _ => (intOf jv).toNat)
      case atStart => exact ⟨i, Nat.le_refl _, rfl, HJ, HO, Lib.hid rfl, HW⟩
      case round =>
        clear HJ HO HW
        obtain ⟨j, hj, rfl, HJ, HO, HIA, HW⟩ := hrel
        cases j with
        | zero =>
          have HE : Hid (OrdB wr g (ordL c n (i + 1)) rest) := (by
            have := HO.out
            rw [← ordL_succ, HIA.out]
            exact this : _)
          go_wp2
          (refine wp_region_ext (by kernel_rfl) (by kernel_rfl) ?_; (repeat (go_big_quiet_step((fail)))); with_reducible refine wpQuiet_nil ?_; intro w1 hw1; have hb1 := ext_below hw1; clear hw1)
          have HJ2 := Lib.hid (HJB.out _ _ HJ.out hb1)
          have HO2 : Hid (OrdB w1 g (ordL c n (i + 1)) rest) := Lib.hid (Blk.below HE.out hb1 (Blk.lt HE.out))
          have HW2 : Hid (Below B w w1) := Lib.hid (HW.out.trans (hb1.mono (Nat.le_trans hBw HW.out.size)))
          clear hb1
          go_wp2
          refine ⟨⟨i + 1, by omega, by omega, by go_num, HJ2, HO2, HW2⟩, ?_⟩
          simp [intOf]; omega
        | succ k =>
          have hkr : k < (rankL c i).length := by rw [HRL.out]; omega
          have hml := midL_len (out := rankL c i) (x := i) (j := k + 1) (by omega)
          have hdl : ((List.range n).drop (i + 1)).length = n - (i + 1) := by rw [List.length_drop, List.length_range]
          have hLl : (midL (rankL c i) i (k + 1) ++ (List.range n).drop (i + 1)).length = n := by rw [List.length_append, hml, hdl, HRL.out]; omega
          obtain ⟨x1, f1⟩ := HO.out.at_ (j := k + 1) (by rw [hLl]; omega)
          obtain ⟨x2, f2⟩ := HO.out.at_ (j := k) (by rw [hLl]; omega)
          have e1 : (midL (rankL c i) i (k + 1) ++ (List.range n).drop (i + 1)).getD (k + 1) 0 = i := by
            rw [List.getD_eq_getElem?_getD, List.getElem?_append_left (by rw [hml]; omega), ← List.getD_eq_getElem?_getD, midL_at (by omega)]
          have e2 : (midL (rankL c i) i (k + 1) ++ (List.range n).drop (i + 1)).getD k 0 = (rankL c i).getD k 0 := by
            rw [List.getD_eq_getElem?_getD, List.getElem?_append_left (by rw [hml]; omega), ← List.getD_eq_getElem?_getD, midL_before hkr]
          rw [e1] at x1
          rw [e2] at x2
          obtain ⟨o, hoo⟩ : ∃ o, o = (rankL c i).getD k 0 := ⟨_, rfl⟩
          have hon : o < n := by
            have e3 : (rankL c i).getD k 0 = (rankL c i)[k] := by simp [hkr]
            have := HRB.out _ (List.getElem_mem hkr)
            rw [hoo, e3]; omega
          rw [← hoo] at x2
          have HCL := Lib.hid (fun W (hW : Below wr.heap.size wr W) => HFF.out i o hlt hon W (HJB.out _ _ HJ.out hW))
          obtain ⟨v, hv⟩ : ∃ v, v = cv i o := ⟨_, rfl⟩
          rw [← hv] at HCL
          have HFV : Hid (c ((rankL c i).getD k 0) i = decide (v < 0)) := (by show _ = _; rw [show c ((rankL c i).getD k 0) i = decide (cv i ((rankL c i).getD k 0) < 0) from congrFun (congrFun HC.out _) _, ← hoo, hv] : _)
          have HOO := Lib.hid hoo; have HLL := Lib.hid hLl
          have hb0 : Below wr.heap.size wr wr := Below.refl _ _
          have kk : IntKind.i64.wrap (((k : Int) + 1) - 1) = (k : Int) := by rw [show ((k : Int) + 1) - 1 = (k : Int) by omega]; exact IntWalk.i64_in _ ⟨by omega, by omega⟩
          have k0 : (0 : Int) ≤ (k : Int) := by omega
          have k1 : (k : Int) < (n : Int) := by omega
          have k2 : (k : Int) + 1 < (n : Int) := by omega
          have k3 : (0 : Int) ≤ (k : Int) + 1 := by omega
          have kp : decide ((0 : Int) < (k : Int) + 1) = true := decide_eq_true (by omega)
          have kq : ((k + 1 : Nat) : Int) = (k : Int) + 1 := by omega
          rw [kq]
          have gl := Blk.lt HO.out
          clear hml hdl hLl e1 e2 hoo hv kq
          by_cases hv0 : v < 0
          · have qv : decide (v < 0) = true := decide_eq_true hv0
            have HI2 := Lib.hid (HIA.out.trans (insAt_yes (f := fun t => c ((rankL c i).getD t 0) i) (by show c _ i = true; rw [HFV.out, qv])))
            clear hv0
            go_wp2
            (refine wp_region_ext (by kernel_rfl) (by kernel_rfl) ?_; (repeat (go_big_quiet_step((first | exact Calls.ext_of (HCL.out _ (bl_ext0 hb0 _)) | fail)))); with_reducible refine wpQuiet_nil ?_; intro w1 hw1; have hb1 := ext_below hw1; clear hw1)
            have HJ2 := Lib.hid (HJB.out _ _ HJ.out hb1)
            have hO2 : OrdB w1 g (midL (rankL c i) i (k + 1) ++ (List.range n).drop (i + 1)) rest := Blk.below HO.out hb1 gl
            have x1 : w1.cell? ⟨g, k + 1, none⟩ = some (.int .i64 (i : Int)) := ((bcell hb1).1 g (k + 1) gl).trans x1
            have x2 : w1.cell? ⟨g, k, none⟩ = some (.int .i64 (o : Int)) := ((bcell hb1).1 g k gl).trans x2
            have f1 := Blk.free hO2 (k + 1)
            have f2 := Blk.free hO2 k
            have gl1 := Blk.lt hO2
            have HO2 := Lib.hid hO2
            have HW2 : Hid (Below B w w1) := Lib.hid (HW.out.trans (hb1.mono (Nat.le_trans hBw HW.out.size)))
            have hsw := midL_swap (out := rankL c i) (x := i) (j := k) hkr
            rw [← HOO.out] at hsw
            have HSW := Lib.hid hsw
            have HO4 := Lib.hid ((HO2.out.put (j := k + 1) (by rw [HLL.out]; omega) o).put (j := k) (by rw [List.length_set, HLL.out]; omega) i)
            clear hb1 hO2 hsw HO HJ HW gl hb0
            go_wp2
            go_region
            all_goals (
              go_wp2
              refine ⟨⟨k, by omega, rfl, Lib.hid (HJB.out _ _ (HJP.out _ k _ (HJP.out _ (k + 1) _ HJ2.out)) ((Below.refl _ _).drew)), ?_, HI2, Lib.hid ((HW2.out.setCell (p := ⟨g, k + 1, none⟩) hB _).setCell (p := ⟨g, k, none⟩) hB _).drew⟩, ?_⟩
              · have h9 := HO4.out
                rw [set2_app (by rw [midL_len (by omega), HRL.out]; omega), HSW.out] at h9
                exact Lib.hid h9
              · simp [intOf])
          · have qv : decide (v < 0) = false := decide_eq_false hv0
            have HI2 := Lib.hid (HIA.out.trans (insAt_no (f := fun t => c ((rankL c i).getD t 0) i) (by show c _ i = false; rw [HFV.out, qv])))
            have HE : Hid (OrdB wr g (ordL c n (i + 1)) rest) := (by
              have := HO.out
              rw [← ordL_succ, HI2.out]
              exact this : _)
            clear hv0
            go_wp2
            (refine wp_region_ext (by kernel_rfl) (by kernel_rfl) ?_; (repeat (go_big_quiet_step((first | exact Calls.ext_of (HCL.out _ (bl_ext0 hb0 _)) | fail)))); with_reducible refine wpQuiet_nil ?_; intro w1 hw1; have hb1 := ext_below hw1; clear hw1)
            have HJ2 := Lib.hid (HJB.out _ _ HJ.out hb1)
            have HO2 : Hid (OrdB w1 g (ordL c n (i + 1)) rest) := Lib.hid (Blk.below HE.out hb1 gl)
            have HW2 : Hid (Below B w w1) := Lib.hid (HW.out.trans (hb1.mono (Nat.le_trans hBw HW.out.size)))
            clear hb1 HO HJ HW gl hb0
            go_wp2
            refine ⟨⟨i + 1, by omega, by omega, by go_num, HJ2, HO2, HW2⟩, ?_⟩
            simp [intOf]; omega
    · obtain rfl : i = n := by omega
      have HE : Hid (OrdB wr g (rankL c i) rest) := (by have := HO.out; rw [ordL_end] at this; exact this : _)
      go_wp2
      go_end0
      exact ⟨rfl, HJ.out, HE.out, HW.out⟩
end Go.Proofs.Ytiikkcifdhcejaa
namespace Go.Proofs.Ytiikkcifdhcejaa
open Go.RowKit

set_option maxRecDepth 100000 in
set_option maxHeartbeats 4000000 in
theorem stabr_any (G : Nat) (cb : Array Value) (hG : Ent G) (n g cap : Nat) (rest : List Value) (cv : Nat → Nat → Int) (J : World → Prop) (hn : 1 ≤ n) (hn2 : n ≤ 20) (hcap : n ≤ cap) (hJb : ∀ W W', J W → Below W.heap.size W W' → J W') (hJp : ∀ W j v, J W → J (W.setCell ⟨g, j, none⟩ v)) (HF : ∀ x o : Nat, x < n → o < n → ∀ W, J W → Calls Try.prog G (#[.int .i64 (x : Int), .int .i64 (o : Int)] ++ cb) W fun e W' => e = .returned (.int .i64 (cv x o)) ∧ Below W.heap.size W W') (B : Nat) (w : World) (hB : B ≤ g) (hBw : B ≤ w.heap.size) (hJ : J w) (ho : OrdB w g (List.range n) rest) :
    Calls Try.prog 97 #[.slice (some ⟨g, 0, none⟩) n cap, .int .i64 (n : Int), .func (.func G) #[] cb] w fun e w' => e = .returned (.tuple #[]) ∧ J w' ∧ OrdB w' g (rankL (fun o x => decide (cv x o < 0)) n) rest ∧ Below B w w' := by
  have HI := Lib.hid (insr_any G cb hG n g cap rest cv J hn hn2 hcap hJb hJp HF B w hB hBw hJ ho)
  have HT := Lib.hid (fun W => ins_triv (.slice (some ⟨g, 0, none⟩) n cap) 20 20 (.func (.func G) #[] cb) W (by omega) (by omega))
  clear hJb hJp HF hJ ho hG
  have d2 : decide ((20 : Int) < (n : Int)) = false := decide_eq_false (by omega)
  by_cases h20 : n = 20
  · subst h20
    go_enter Try.func97, Try.ntmps97
    go_wp2
    go_loopw [7, 8] (fun av bv W => ∃ q : Nat, q ≤ 1 ∧ av = .int .i64 (if q = 0 then 0 else 20) ∧ bv = .int .i64 (if q = 0 then 20 else 40) ∧ Hid (q = 0 → W = w) ∧ Hid (q = 1 → J W ∧ OrdB W g (rankL (fun o x => decide (cv x o < 0)) 20) rest ∧ Below B w W)) (fun _ bv _ => 40 - (intOf bv).toNat)
    case atStart => exact ⟨0, by omega, rfl, rfl, Lib.hid fun _ => rfl, Lib.hid fun h => by omega⟩
    case round =>
      obtain ⟨q, hq, rfl, rfl, HQ0, HQ1⟩ := hrel
      rcases (by omega : q = 0 ∨ q = 1) with rfl | rfl
      · obtain rfl := HQ0.out rfl
        rw [if_pos rfl, if_pos rfl]
        clear HQ0 HQ1
        go_wp2_with (first | (go_at_call 103; refine HI.out.mono ?_; rintro _ w1 ⟨rfl, h1, h2, h3⟩) | fail)
        refine ⟨?_, by simp [intOf]⟩
        repeat apply Exists.intro
        refine And.intro ?_ ?_
        rotate_left 1
        · rfl
        · exact ⟨1, by omega, rfl, rfl, Lib.hid fun h => by omega, Lib.hid fun _ => ⟨h1, h2, h3⟩⟩
      · obtain ⟨h1, h2, h3⟩ := HQ1.out rfl
        rw [if_neg (by omega), if_neg (by omega)]
        have H1 := Lib.hid h1; have H2 := Lib.hid h2; have H3 := Lib.hid h3
        clear h1 h2 h3 HQ0 HQ1
        go_wp2_with (first | (go_at_call 103; refine (HT.out _).mono ?_; rintro _ _ ⟨rfl, rfl⟩) | fail)
        go_loop [6] (fun iv => iv = .int .i64 20) (fun _ => 0)
        case atStart => rfl
        case round =>
          obtain rfl := hrel
          go_wp2
          go_end0
          exact ⟨rfl, H1.out, H2.out, H3.out⟩
  · have d1 : decide ((20 : Int) ≤ (n : Int)) = false := decide_eq_false (by omega)
    go_enter Try.func97, Try.ntmps97
    go_wp2
    go_loop [7, 8] (fun av bv => av = .int .i64 0 ∧ bv = .int .i64 20) (fun _ _ => 0)
    case atStart => exact ⟨rfl, rfl⟩
    case round =>
      obtain ⟨rfl, rfl⟩ := hrel
      go_wp2_with (first | (go_at_call 103; refine HI.out.mono ?_; rintro _ w1 ⟨rfl, h1, h2, h3⟩) | fail)
      have H1 := Lib.hid h1; have H2 := Lib.hid h2; have H3 := Lib.hid h3
      clear h1 h2 h3
      go_loop [6] (fun iv => iv = .int .i64 20) (fun _ => 0)
      case atStart => rfl
      case round =>
        obtain rfl := hrel
        go_wp2
        go_end0
        exact ⟨rfl, H1.out, H2.out, H3.out⟩
set_option maxRecDepth 100000 in
set_option maxHeartbeats 4000000 in
theorem stab_triv (data : Value) (F : Value) (w : World) : Calls Try.prog 97 #[data, .int .i64 0, F] w fun e w' => e = .returned (.tuple #[]) ∧ w = w' := by
  have HT := Lib.hid (fun W => ins_triv data 0 0 F W (by omega) (by omega))
  go_enter Try.func97, Try.ntmps97
  go_wp2
  go_loop [7, 8] (fun av bv => av = .int .i64 0 ∧ bv = .int .i64 20) (fun _ _ => 0)
  case atStart => exact ⟨rfl, rfl⟩
  case round =>
    obtain ⟨rfl, rfl⟩ := hrel
    go_wp2_with (first | (go_at_call 103; refine (HT.out _).mono ?_; rintro _ _ ⟨rfl, rfl⟩) | fail)
    go_loop [6] (fun iv => iv = .int .i64 20) (fun _ => 0)
    case atStart => rfl
    case round =>
      obtain rfl := hrel
      go_wp2
      go_end0
      exact ⟨rfl, rfl⟩
set_option maxRecDepth 100000 in
set_option maxHeartbeats 4000000 in
theorem sortr_any (G : Nat) (cb : Array Value) (hG : Ent G) (n g cap : Nat) (rest : List Value) (cv : Nat → Nat → Int) (J : World → Prop) (hn : 1 ≤ n) (hn2 : n ≤ 20) (hcap : n ≤ cap) (hJb : ∀ W W', J W → Below W.heap.size W W' → J W') (hJp : ∀ W j v, J W → J (W.setCell ⟨g, j, none⟩ v)) (HF : ∀ x o : Nat, x < n → o < n → ∀ W, J W → Calls Try.prog G (#[.int .i64 (x : Int), .int .i64 (o : Int)] ++ cb) W fun e W' => e = .returned (.int .i64 (cv x o)) ∧ Below W.heap.size W W') (B : Nat) (w : World) (hB : B ≤ g) (hBw : B ≤ w.heap.size) (hJ : J w) (ho : OrdB w g (List.range n) rest) :
    Calls Try.prog 72 #[.slice (some ⟨g, 0, none⟩) n cap, .func (.func G) #[] cb] w fun e w' => e = .returned (.tuple #[]) ∧ J w' ∧ OrdB w' g (rankL (fun o x => decide (cv x o < 0)) n) rest ∧ Below B w w' := by
  have HI := Lib.hid (stabr_any G cb hG n g cap rest cv J hn hn2 hcap hJb hJp HF B w hB hBw hJ ho)
  clear hJb hJp HF hJ ho hG
  go_enter Try.func72, Try.ntmps72
  go_wp2_with (first | (go_at_call 97; refine HI.out.mono ?_; rintro _ w1 ⟨rfl, h1, h2, h3⟩) | fail)
  have H1 := Lib.hid h1; have H2 := Lib.hid h2; have H3 := Lib.hid h3
  clear h1 h2 h3
  go_wp2
  go_end0
  exact ⟨rfl, H1.out, H2.out, H3.out⟩
set_option maxRecDepth 100000 in
set_option maxHeartbeats 4000000 in
theorem sort_triv (A : Option Addr) (c : Nat) (F : Value) (w : World) : Calls Try.prog 72 #[.slice A 0 c, F] w fun e w' => e = .returned (.tuple #[]) ∧ w = w' := by
  have HI := Lib.hid (fun W => stab_triv (.slice A 0 c) F W)
  go_enter Try.func72, Try.ntmps72
  go_wp2_with (first | (go_at_call 97; refine (HI.out _).mono ?_; rintro _ _ ⟨rfl, rfl⟩) | fail)
  go_wp2
  go_end0
  exact ⟨rfl, rfl⟩
end Go.Proofs.Ytiikkcifdhcejaa
namespace Go.Proofs.Ytiikkcifdhcejaa
open Go.RowKit

section
variable {P : Program} {ops : Array Oper} {md : Region.Mode} {Q : Exit → Act → World → Prop} {S : World → Prop}
/-- two operations may come up -/
theorem WT.two {n g i j f : Nat} {o p : Oper} {listed : Array Bool} {a : Act} {w : World} (ho : ops[i]? = some o) (hp : ops[j]? = some p) (hin : i < n) (hjn : j < n) (hr : Region.ready md ops listed = [i, j])
    (h : ∀ K' : Act → World → Prop, Shut (∀ a w, S w → (S w → WT P md ops Q S n g f (listed.setIfInBounds i true) a w) → K' a w) → if Region.wanted o (yielded ops a.tmps) = true then Oper.wp P o a w K' Q else K' (a.put o.dst undef) w)
    (k : ∀ K' : Act → World → Prop, Shut (∀ a w, S w → (S w → WT P md ops Q S n g f (listed.setIfInBounds j true) a w) → K' a w) → if Region.wanted p (yielded ops a.tmps) = true then Oper.wp P p a w K' Q else K' (a.put p.dst undef) w) : WT P md ops Q S n g (f + 1) listed a w :=
  fun h1 hs hc hn inv => ⟨(by rw [hr]; simp), fun t ht => by
    rw [hr] at ht
    rcases (by simpa using ht : t = i ∨ t = j) with rfl | rfl
    · exact ⟨hin, wpOp_step ho fun K' hK => h K' fun a w hS hW => hK a w ⟨hS, hW hS h1 hs hc hn (inv.set (by rw [hr]; simp) hin)⟩⟩
    · exact ⟨hjn, wpOp_step hp fun K' hK => k K' fun a w hS hW => hK a w ⟨hS, hW hS h1 hs hc hn (inv.set (by rw [hr]; simp) hjn)⟩⟩⟩
/-- the last two, in their order -/
theorem WT.last2 {n m : Nat} {o p : Oper} {listed : Array Bool} {a : Act} {w : World} (ho : ops[n]? = some o) (hp : ops[m]? = some p) (hr : Region.ready md ops listed = [n]) (hr2 : Region.ready md ops (listed.setIfInBounds n true) = [m]) (hr3 : Region.ready md ops ((listed.setIfInBounds n true).setIfInBounds m true) = [])
    (h : ∀ K' : Act → World → Prop, Shut (∀ a w, (∀ K'' : Act → World → Prop, Shut (∀ a w, Q .normal a w → K'' a w) → if Region.wanted p (yielded ops a.tmps) = true then Oper.wp P p a w K'' Q else K'' (a.put p.dst undef) w) → K' a w) → if Region.wanted o (yielded ops a.tmps) = true then Oper.wp P o a w K' Q else K' (a.put o.dst undef) w) : WT P md ops Q S n 2 0 listed a w :=
  WT.done hr ⟨fun h0 => (by rw [hr] at h0; cases h0), fun j hj => by
    have hji : j = n := by rw [hr] at hj; simpa using hj
    subst hji
    exact wpOp_step ho fun K' hK => h K' fun a w hq => hK a w ⟨fun h0 => (by rw [hr2] at h0; cases h0), fun k hk => by
      have hkm : k = m := by rw [hr2] at hk; simpa using hk
      subst hkm
      exact wpOp_step hp fun K'' hK2 => hq K'' fun a w hq2 => hK2 a w ⟨hr3, hq2⟩⟩⟩
end
theorem row_ne_blk {W : World} {b e s n k t : Nat} {v : Value} {xs : List Value} {cs : Array Value} (h : W.ownsRow b e s v n xs) (hk : Blk W k cs t) (hne : e ≠ t) : some k ≠ v.ownBlock := by
  intro e1
  rcases h.2 with ⟨rfl, _⟩ | ⟨g, cap, cur, rfl, _, hg, _⟩
  · cases e1
  · simp [Value.ownBlock] at e1
    subst e1
    unfold Blk at hk
    rw [hg] at hk
    cases hk
    exact hne rfl
theorem row_apart {W : World} {b b' s s' n n' : Nat} {e e' : TypeId} {v v' : Value} {xs xs' : List Value} (h : W.ownsRow b e s v n xs) (h' : W.ownsRow b' e' s' v' n' xs') (hne : e ≠ e') : v.ownBlock = none ∨ v.ownBlock ≠ v'.ownBlock := by
  rcases h.2 with ⟨rfl, _⟩ | ⟨g, cap, cur, rfl, _, hg, _⟩
  · exact .inl rfl
  · rcases h'.2 with ⟨rfl, _⟩ | ⟨g', cap', cur', rfl, _, hg', _⟩
    · exact .inr (by simp [Value.ownBlock])
    · refine .inr fun e1 => ?_
      simp [Value.ownBlock] at e1
      subst e1
      rw [hg] at hg'
      cases hg'
      exact hne rfl
/-- scores that are gathered: a row of n of them that is one's own, a row of m numbers, and a box -/
structure RkI (w : World) (b7 : Nat) (bv sv ov : Value) (n m : Nat) (scs : List Sco) (P Q : Nat → Nat) (len : Nat) (W : World) : Prop where
  os : W.ownsRow w.heap.size 79 2 sv n (flat Sco.cells (scs.take n))
  oo : W.ownsRow w.heap.size 3 1 ov m ((List.range m).map fun (x : Nat) => Value.int .i64 (x : Int))
  k7 : Blk W b7 #[bv] 118
  z7 : w.heap.size ≤ b7
  sc : ∀ i (h : i < scs.length), ScV (P i) (Q i) len 0 scs[i].val W
  av : ∀ i (h : i < scs.length), ScAv (fun r => r = b7 ∨ sv.ownBlock = some r ∨ ov.ownBlock = some r) scs[i].val
  hw : Below w.heap.size w W
section
variable {w : World} {b7 : Nat} {bv sv ov : Value} {n m : Nat} {scs : List Sco} {P Q : Nat → Nat} {len : Nat} {W W' : World}
theorem RkI.below (h : RkI w b7 bv sv ov n m scs P Q len W) (hb : Below W.heap.size W W') : RkI w b7 bv sv ov n m scs P Q len W' :=
  ⟨own_stp h.os hb, own_stp h.oo hb, h.k7.below hb h.k7.lt, h.z7, fun i hi => ScV.stays _ _ _ (h.sc i hi) hb, h.av, h.hw.trans (hb.mono h.hw.size)⟩
theorem RkI.news (h : RkI w b7 bv sv ov n m scs P Q len W) (hn : n ≤ scs.length) (x : Sco) {lo : Nat} (hlo : W.heap.size ≤ lo) (hx : ScV (P scs.length) (Q scs.length) len lo x.val W') (hb : Below W.heap.size W W') : RkI w b7 bv sv ov n m (scs ++ [x]) P Q len W' := by
  have h1 := h.below hb
  have hx2 : ScAv (fun r => r = b7 ∨ sv.ownBlock = some r ∨ ov.ownBlock = some r) x.val := hx.high fun r hr => by
    have h7 := h.k7.lt
    rcases hr with rfl | hr | hr
    · omega
    · have := (h.os.lt r hr).2; omega
    · have := (h.oo.lt r hr).2; omega
  refine ⟨by rw [List.take_append_of_le_length hn]; exact h1.os, h1.oo, h1.k7, h1.z7, fun i hi => ?_, fun i hi => ?_, h1.hw⟩
  · by_cases hi2 : i < scs.length
    · rw [List.getElem_append_left hi2]; exact h1.sc i hi2
    · have : i = scs.length := by simp at hi; omega
      subst this
      simpa using hx.mono (Nat.zero_le _)
  · by_cases hi2 : i < scs.length
    · rw [List.getElem_append_left hi2]; exact h1.av i hi2
    · have : i = scs.length := by simp at hi; omega
      subst this
      simpa using hx2
theorem RkI.appS (h : RkI w b7 bv sv ov n m scs P Q len W) (hn : n < scs.length) {v' : Value} (hg : W.grownBy W' sv.ownBlock) (hown : W'.ownsRow w.heap.size 79 2 v' (n + 1) (flat Sco.cells (scs.take n) ++ scs[n].cells)) (hat : v'.ownBlock = sv.ownBlock ∨ v'.ownBlock = some W.heap.size) : RkI w b7 bv v' ov (n + 1) m scs P Q len W' :=
  ⟨by rw [List.take_succ_eq_append_getElem hn, flat_snoc]; exact hown, h.oo.kept hg (row_apart h.oo h.os (by decide)), h.k7.grown hg (row_ne_blk h.os h.k7 (by decide)), h.z7,
    fun i hi => (h.sc i hi).grownP (h.av i hi) hg fun r hr => .inl (.inr (.inl hr)),
    fun i hi => (h.sc i hi).avoid (h.av i hi) fun r hr => by
      rcases hr with h1 | h1 | h1
      · exact .inl (.inl h1)
      · rcases hat with h2 | h2
        · exact .inl (.inr (.inl (h2.symm.trans h1)))
        · rw [h2] at h1; exact .inr (by cases h1; exact Nat.le_refl _)
      · exact .inl (.inr (.inr h1)),
    h.hw.grown hg (by have := h.hw.size; omega) (fun g hg => (h.os.lt g hg).1)⟩
theorem RkI.appO (h : RkI w b7 bv sv ov n m scs P Q len W) {v' : Value} (hg : W.grownBy W' ov.ownBlock) (hown : W'.ownsRow w.heap.size 3 1 v' (m + 1) (((List.range m).map fun (x : Nat) => Value.int .i64 (x : Int)) ++ [.int .i64 (m : Int)])) (hat : v'.ownBlock = ov.ownBlock ∨ v'.ownBlock = some W.heap.size) : RkI w b7 bv sv v' n (m + 1) scs P Q len W' :=
  ⟨h.os.kept hg (row_apart h.os h.oo (by decide)), by rw [List.range_succ, List.map_append]; exact hown, h.k7.grown hg (row_ne_blk h.oo h.k7 (by decide)), h.z7,
    fun i hi => (h.sc i hi).grownP (h.av i hi) hg fun r hr => .inl (.inr (.inr hr)),
    fun i hi => (h.sc i hi).avoid (h.av i hi) fun r hr => by
      rcases hr with h1 | h1 | h1
      · exact .inl (.inl h1)
      · exact .inl (.inr (.inl h1))
      · rcases hat with h2 | h2
        · exact .inl (.inr (.inr (h2.symm.trans h1)))
        · rw [h2] at h1; exact .inr (by cases h1; exact Nat.le_refl _),
    h.hw.grown hg (by have := h.hw.size; omega) (fun g hg => (h.oo.lt g hg).1)⟩
theorem RkI.put (h : RkI w b7 bv sv ov n m scs P Q len W) (v : Value) : RkI w b7 v sv ov n m scs P Q len (W.setCell ⟨b7, 0, none⟩ v) := by
  have hg := grown_set W ⟨b7, 0, none⟩ v
  have n1 : sv.ownBlock = none ∨ sv.ownBlock ≠ some b7 := .inr fun e => row_ne_blk h.os h.k7 (by decide) e.symm
  have n2 : ov.ownBlock = none ∨ ov.ownBlock ≠ some b7 := .inr fun e => row_ne_blk h.oo h.k7 (by decide) e.symm
  exact ⟨h.os.kept hg n1, h.oo.kept hg n2, by have := h.k7.set 0 v; simpa using this, h.z7, fun i hi => (h.sc i hi).grownP (h.av i hi) hg fun r hr => .inl (.inl (by cases hr; rfl)), h.av, h.hw.setCell (p := ⟨b7, 0, none⟩) h.z7 v⟩
/-- all are gathered -/
theorem RkI.done (h : RkI w b7 sv sv ov scs.length m scs P Q len W) (hm : 0 < m) : ∃ As cs g cap rest, sv = .slice As scs.length cs ∧ ov = .slice (some ⟨g, 0, none⟩) m cap ∧ m ≤ cap ∧ w.heap.size ≤ g ∧ RkS b7 As cs scs P Q len g W ∧ OrdB W g (List.range m) rest := by
  have hos := h.os
  rw [List.take_length] at hos
  obtain ⟨As, cs, rfl, hsl⟩ := Sl.of_own hos
  rcases h.oo.2 with ⟨h1, h2⟩ | ⟨g, cap, cur, rfl, hbg, hg, hnc, hcm, hcs, htk⟩
  · omega
  have hcur : cur = (((List.range m).map fun (x : Nat) => Value.int .i64 (x : Int)) ++ cur.toList.drop (m * 1)).toArray := by
    apply Array.ext'
    show cur.toList = ((List.range m).map fun (x : Nat) => Value.int .i64 (x : Int)) ++ cur.toList.drop (m * 1)
    rw [← htk, List.take_append_drop]
  have hblk : OrdB W g (List.range m) (cur.toList.drop (m * 1)) := by
    unfold OrdB Blk
    rw [← hcur]; exact hg
  have hg7 : g ≠ b7 := Blk.ne_of hblk h.k7 (by decide)
  refine ⟨As, cs, g, cap, _, rfl, rfl, hnc, hbg, ⟨h.k7, hsl, h.sc, fun i hi => (h.sc i hi).avoid (h.av i hi) fun r hr => .inl (.inr (.inr (by rw [hr]; rfl))), hg7, fun ad e hne => ?_⟩, hblk⟩
  subst e
  rcases row_apart hos h.oo (by decide) with h1 | h1
  · rcases hos.2 with ⟨h2, _⟩ | ⟨g', cap', cur', h2, _⟩
    · cases h2
    · cases h2; cases h1
  · rcases hos.2 with ⟨h2, _⟩ | ⟨g', cap', cur', h2, _⟩
    · cases h2
    · cases h2; exact h1 (by simp [Value.ownBlock]; exact hne)
end
end Go.Proofs.Ytiikkcifdhcejaa

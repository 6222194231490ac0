/- almanac: which rule decides a day; whether it is allowed. -/
import Derived.Test.YtfbnllmmoaialaaGreatZ13As
import Derived.Test.YtfbnllmmoaialaaGreatZ02Iter
namespace Go.Proofs.YtfbnllmmoaialaaGreat
open Go.RowKit
attribute [local go_sem] Oper.semAt_some

theorem LkD.stab {x : Alm} {z A M B : Nat} {day : Int} {V : World} (hB : V.heap.size ≤ B) : Stab B (fun W => LkD x z A M day V W) := by
  intro W W' row h hg hr
  have hcell : ∀ {b : Nat} {cs : Array Value} {t : TypeId}, Blk W b cs t → Blk W' b cs t := fun hb => hb.grown hg (fun e => by
    obtain ⟨_, o, ho, hc⟩ := hr _ e.symm
    unfold Blk at hb; rw [hb] at ho; cases ho; cases hc)
  obtain ⟨sv, mv, h1, h2, h3⟩ := h.at_
  refine ⟨⟨hg.os.trans h.gr.os, hg.tape.trans h.gr.tape, hg.output.trans h.gr.output, Nat.le_trans h.gr.size hg.size, fun i hi hne => (hg.block i (Nat.lt_of_lt_of_le hi h.gr.size) (fun e => by have := (hr i e.symm).1; omega)).trans (h.gr.block i hi hne)⟩, sv, mv, hcell h1, ?_, ?_⟩
  · rcases h2 with h2 | ⟨b, e1, e2, e3⟩
    · exact .inl h2
    · exact .inr ⟨b, e1, e2, hcell e3⟩
  · rcases h3 with h3 | ⟨b, e1, e2, e3⟩
    · exact .inl h3
    · exact .inr ⟨b, e1, e2, hcell e3⟩
theorem LkD.setFar {x : Alm} {z A M n i : Nat} {day : Int} {V W : World} {old : Value} {t : TypeId} (h : LkD x z A M day V W) (hn : V.heap.size ≤ n) (hnz : n ≠ z) (hb : Blk W n #[old] t) (v : Value) : LkD x z A M day V (W.setCell ⟨n, i, none⟩ v) := by
  obtain ⟨sv, mv, h1, h2, h3⟩ := h.at_
  refine ⟨grown_setN h.gr hn v, sv, mv, h1.far _ (fun e => hnz e.symm) _, ?_, ?_⟩
  · rcases h2 with h2 | ⟨b, e1, e2, e3⟩
    · exact .inl h2
    · refine .inr ⟨b, e1, e2, e3.far _ (fun e => ?_) _⟩
      have e : b = n := e
      subst e
      unfold Blk at hb e3
      rw [hb] at e3
      have := Option.some.inj e3
      simp [SDate.cells] at this
  · rcases h3 with h3 | ⟨b, e1, e2, e3⟩
    · exact .inl h3
    · refine .inr ⟨b, e1, e2, e3.far _ (fun e => ?_) _⟩
      have e : b = n := e
      subst e
      unfold Blk at hb e3
      rw [hb] at e3
      have := Option.some.inj e3
      simp [LDate.cells] at this
abbrev rlv (r : DRl) : Value := .agg #[.slice r.wa r.when_.length r.wc, .bool r.allow]
/-- what a round over the rules from the last one on is handed -/
def EncBack (rs : List DRl) (k : Nat) (_ : World) (xs : Array Value) : Prop := ∃ q r, q + 1 + k = rs.length ∧ rs[q]? = some r ∧ xs = #[.int .i64 (q : Int), rlv r]
theorem ent_bw1 : Ent 103 := ent_of Tryz.func103 (by kernel_rfl) rfl
set_option maxRecDepth 100000 in
set_option maxHeartbeats 1000000 in
theorem bw1_iter (rs : List DRl) (A2 : Option Addr) (c2 B : Nat) (hl : rs.length ≤ 1000000) :
    Iter 103 #[.pointer (some ⟨B, 0, none⟩)] (fun W => B < W.heap.size ∧ W.cell? ⟨B, 0, none⟩ = some (.slice A2 rs.length c2) ∧ Sl DRl.cells 2 W W.heap.size A2 rs) (EncBack rs) rs.length := by
  intro l J Jx W hJs hJxs hJD hY h0
  have HJs := Lib.hid hJs; have HJD := Lib.hid hJD; have HY := Lib.hid hY
  obtain ⟨hB, b0, _⟩ := hJD 0 W h0
  have H0 := Lib.hid h0
  clear hJs hJD hY h0 hJxs
  obtain ⟨n, hn⟩ : ∃ n, n = rs.length := ⟨_, rfl⟩
  rw [← hn] at HY hl b0 ⊢
  have HN := Lib.hid hn
  clear hn
  rw [← callsIn_wide (n := 2)]
  refine callsIn_of_wp Tryz.func103 rfl trivial ?_ rfl
  simp only [Tryz.ntmps103, List.size_toArray, List.length_cons, List.length_nil, Nat.reduceAdd, Nat.reduceSub, Array.replicate_succ, Array.replicate_zero, List.push_toArray, List.append_toArray, List.nil_append, List.cons_append]
  gi_wp2
  gi_loopw [3] (fun i wr => ∃ m : Nat, m ≤ n ∧ i = .int .i64 ((m : Int) - 1) ∧ Hid (J (n - m) wr)) (fun i _ => (intOf i + 1).toNat)
  case atStart => exact ⟨n, by omega, rfl, by rw [Nat.sub_self]; exact H0⟩
  case round =>
    obtain ⟨m, hm, rfl, hj⟩ := hrel
    cases m with
    | zero =>
      have hjn : Hid (J n wr) := hj
      gi_wp2
      go_end0
      exact ⟨⟨_, rfl⟩, .inl hjn.out⟩
    | succ q =>
      rw [show (((q + 1 : Nat) : Int) - 1) = (q : Int) by omega]
      obtain ⟨hB', q0, hsl⟩ := HJD.out _ wr hj.out
      rw [← HN.out] at q0
      obtain ⟨ab, ao, hra, hblk, hcell⟩ := hsl.at_ (k := q) (fun _ => rfl) (by rw [← HN.out]; omega)
      rw [hra] at q0
      have hge : rs[q]? = some rs[q] := List.getElem?_eq_getElem _
      obtain ⟨r, hr⟩ : ∃ r, r = rs[q]'(by rw [← HN.out]; omega) := ⟨_, rfl⟩
      rw [← hr] at hcell hge
      have c0 : wr.cell? ⟨ab, ao + q * 2, none⟩ = some (.slice r.wa r.when_.length r.wc) := hcell 0 _ rfl
      have c1 : wr.cell? ⟨ab, ao + q * 2 + 1, none⟩ = some (.bool r.allow) := hcell 1 _ rfl
      have hq0 : (0 : Int) ≤ (q : Int) := by omega
      have hq1 : (q : Int) < (n : Int) := by omega
      obtain ⟨fn, tmps, assign, body, hy, hR⟩ := HY.out (n - (q + 1)) wr #[.int .i64 (q : Int), rlv r] (by omega) hj.out ⟨q, r, by rw [← HN.out]; omega, hge, rfl⟩
      have HRR := Lib.hid hR
      rw [show n - (q + 1) + 1 = n - q by omega] at HRR
      clear hr hge hra hcell hsl hR hj
      gi_wp2
      refine HRR.out.mono ?_
      rintro e W3 (⟨rfl, hJ3⟩ | ⟨rfl, hJx3⟩)
      · have HJ3 := Lib.hid hJ3
        clear hJ3
        gi_wp2
        go_roundw
        case rel => exact ⟨q, by omega, rfl, HJ3⟩
        case measure => simp [intOf]
      · have HJ3 := Lib.hid hJx3
        clear hJx3
        gi_wp2
        refine bodyPost_ret (results_none rfl _ _ _) rfl ?_
        exact ⟨⟨_, rfl⟩, .inr HJ3.out⟩
theorem bw_any (A2 : Option Addr) (n c2 : Nat) (w : World) : Calls Tryz.prog 99 #[.slice A2 n c2] w fun e w' => e = .returned (.func (.func 103) #[] #[.pointer (some ⟨w.heap.size, 0, none⟩)]) ∧ w.alloc (.cells #[.slice A2 n c2] 29) = w' := by
  go_enter Tryz.func99, Tryz.ntmps99
  go_wp2
  go_ret
  exact ⟨rfl, rfl⟩
/-- the last of the first n rules with p, or -1 -/
def lastTo (p : DRl → Bool) (rs : List DRl) : Nat → Int
  | 0 => -1
  | n + 1 => match rs[n]? with
    | some r => if p r then (n : Int) else lastTo p rs n
    | none => lastTo p rs n
def applB (x : Alm) (day : Int) (r : DRl) : Bool := r.when_.all fun t => holdB x t day
/-- the rule that decides a day -/
def decI (x : Alm) (rs : List DRl) (day : Int) : Int := lastTo (applB x day) rs rs.length
theorem lastTo_bd (p : DRl → Bool) (rs : List DRl) : ∀ n, n ≤ rs.length → -1 ≤ lastTo p rs n ∧ lastTo p rs n < n
  | 0, _ => by simp [lastTo]
  | n + 1, h => by
    have ih := lastTo_bd p rs n (by omega)
    simp only [lastTo, List.getElem?_eq_getElem (show n < rs.length by omega)]
    split <;> omega
theorem RlsAt.grown {W W' : World} {z : Nat} {A : Option Addr} {l : List DRl} (h : RlsAt W z A l) (hg : W.grownBy W' (some z)) (hz : z < W.heap.size) : RlsAt W' z A l := by
  have hk : ∀ p : Addr, p.block < z → W'.cell? p = W.cell? p := fun p hp => World.cell?_of_block (hg.block p.block (by omega) (by intro e; have := Option.some.inj e; omega))
  exact ⟨h.len, h.sl.keep hk, fun r hr => ⟨(h.rul r hr).len, (h.rul r hr).set, (h.rul r hr).sl.keep hk⟩⟩
set_option maxRecDepth 100000 in
set_option maxHeartbeats 4000000 in
theorem decides_any (x : Alm) (z A f0 M : Nat) (day : Int) (A2 : Option Addr) (c2 : Nat) (rs : List DRl) (w : World) (hx : almB x = true) (d0 : 0 ≤ day) (d1 : day ≤ 1000000)
    (hs : LkS x z A f0 M w) (hd : LkD x z A M day w w) (hr : RlsAt w z A2 rs) (hv : ∀ r ∈ rs, badR x.cycles r = false) :
    Calls Tryz.prog 87 #[.pointer (some ⟨z, 0, none⟩), .slice A2 rs.length c2] w fun e w' => e = .returned (.int .i64 (decI x rs day)) ∧ LkD x z A M day w w' := by
  have hlz := hs.lz
  have hl := hr.len
  have HS := Lib.hid hs; have HD := Lib.hid hd; have HR := Lib.hid hr; have HV := Lib.hid hv
  obtain ⟨n, hn⟩ : ∃ n, n = rs.length := ⟨_, rfl⟩
  have HN := Lib.hid hn
  rw [← hn]
  clear hs hd hr hv hn
  refine calls_marks Tryz.func87 rfl ?_
  simp only [Tryz.ntmps87, List.size_toArray, List.length_cons, List.length_nil, Nat.reduceAdd, Nat.reduceSub, Array.replicate_succ, Array.replicate_zero, List.push_toArray, List.append_toArray, List.nil_append, List.cons_append]
  go_wp2_with (go_at_call 99; refine (bw_any _ _ _ _).mono ?_; rintro _ _ ⟨rfl, rfl⟩)
  obtain ⟨b2, hb2⟩ : ∃ b, b = w.heap.size := ⟨_, rfl⟩
  rw [← hb2]
  refine gen_w (fun W => W.heap.size = b2 + 1 + 1 + 1 ∧ LkD x z A M day w W ∧ Blk W b2 #[.pointer (some ⟨z, 0, none⟩)] 93 ∧ Blk W (b2 + 1) #[.int .i64 0] 3 ∧ Blk W (b2 + 1 + 1) #[.slice A2 n c2] 29) ⟨by simp [hb2], HD.out.below (by (repeat (first | exact Below.refl _ _ | assumption | (refine Below.alloc ?_ (by first | omega | (simp; omega) | (simp; done)) _) | (refine Below.setCell ?_ (by first | omega | (simp; omega) | (simp; done)) _) | (refine Below.drew ?_) | (refine belowN ?_ _) | (refine Below.trans ?_ (Below.mono ‹Below _ _ _› (by first | omega | (simp; omega) | (simp; done))))))), ((Blk.at_ hb2).alloc _).alloc _, (Blk.at_ (by simp [hb2])).alloc _, Blk.at_ (by simp [hb2])⟩ ?_
  rintro V ⟨hVz, hVd, gl, gr, gs⟩
  have hbz : b2 ≠ z := by omega
  have hbz1 : b2 + 1 ≠ z := by omega
  have hwb : w.heap.size ≤ b2 := by omega
  have hVZ := Lib.hid hVz
  have hvl : b2 + 1 + 1 < V.heap.size := by omega
  clear hb2 hVz
  have hRz : ∀ W, LkD x z A M day w W → RlsAt W z A2 rs := fun W h => HR.out.grown h.gr hlz
  refine wp_rangeBC (lb := #[.pointer (some ⟨b2 + 1 + 1, 0, none⟩)]) rfl ent_bw1 (bw1_iter rs A2 c2 (b2 + 1 + 1) hl) [(5, 0)] 6 (fun xs => match xs.getD 1 undef with | .agg cs => cs | _ => #[]) 48
    (fun k W => LkD x z A M day w W ∧ Blk W b2 #[.pointer (some ⟨z, 0, none⟩)] 93 ∧ Blk W (b2 + 1) #[.int .i64 0] 3 ∧ Blk W (b2 + 1 + 1) #[.slice A2 n c2] 29 ∧ Hid (decI x rs day = lastTo (applB x day) rs (n - k)))
    (fun c W => c = .ret ∧ LkD x z A M day w W ∧ Blk W (b2 + 1) #[.int .i64 (decI x rs day)] 3)
    (fun k => (LkD.stab (by omega)).and ((Stab.blk _ _ _ _).and ((Stab.blk _ _ _ _).and ((Stab.blk _ _ _ _).and (Stab.pure _))))) (fun c => (Stab.pure _).and ((LkD.stab (by omega)).and (Stab.blk _ _ _ _))) ?hE ?hD ⟨hVd, gl, gr, gs, ?h0⟩ ?hps ?hassign ?hbody ?hdone ?hstop
  case hE => exact fun k xs => Stab.ex fun q => Stab.ex fun r => (Stab.pure _).and ((Stab.pure _).and (Stab.pure _))
  case hD => exact fun k W hi => ⟨hi.2.2.2.1.lt, by rw [hi.2.2.2.1.cell, HN.out]; rfl, ((hRz W hi.1).sl).more (by have := hi.1.gr.size; omega)⟩
  case h0 => rw [HN.out]; exact rfl
  case hps => rintro k W xs ⟨q, r, _, _, rfl⟩; rfl
  case hassign =>
    rintro l k xs W K ⟨q, r, _, _, rfl⟩ hK
    rw [round2B] at hK
    rw [fold2]
    simp only [List.setIfInBounds_toArray, List.set_cons_succ, List.set_cons_zero] at hK ⊢
    gi_wp2
    exact hK _ ((Below.refl _ _).alloc (Nat.le_refl _) _) (Blk.new _ _ _)
  case hbody =>
    rintro l k xs b W hk ⟨hD1, hl1, hr1, hs1, hn1⟩ ⟨q, r, hq, hqr, rfl⟩ hbk hl2 hl3
    rw [round2B]
    simp only [List.setIfInBounds_toArray, List.set_cons_succ, List.set_cons_zero]
    have hbk : Blk W b #[.slice r.wa r.when_.length r.wc, .bool r.allow] 48 := hbk
    have hmem : r ∈ rs := List.mem_of_getElem? hqr
    have hrul := (hRz W hD1).rul r hmem
    have hgood : r.when_.any (fun t => !tstB x.cycles t) = false := by have := HV.out r hmem; simp only [badR, Bool.or_eq_false_iff] at this; exact this.2
    have HZ : Hid (LkS x z A f0 M W) := HS.out.grown hD1.gr
    have hzW : z < W.heap.size := HZ.out.lz
    obtain ⟨v, hvv⟩ : ∃ v, v = r.when_.any fun t => !holdB x t day := ⟨_, rfl⟩
    have HC := Lib.hid (tanyI_any 100 #[.pointer (some ⟨b2, 0, none⟩)] r.wa r.wc r.when_ (fun t => !holdB x t day) W (fun W' => W.grownBy W' (some z) ∧ LkD x z A M day w W') ent_dec1 hrul.len
      (fun W' h => ((hRz W' h.2).rul r hmem).sl.more (by have := h.1.size; omega))
      (fun t ht W' h => (dec1_any x z A f0 M b2 day t W' hx d0 d1 (hrul.set t ht) (by have := List.any_eq_false.1 hgood t ht; simpa using this) (HZ.out.grown h.1) h.2.self (hl1.grown h.1 (by intro e; exact hbz (Option.some.inj e))) hbz).mono
        fun e W2 ⟨he, hh⟩ => ⟨he, grown_same h.1 hh.gr, hh.base h.2.gr⟩) ⟨grownZ z (Below.refl _ _), hD1⟩)
    rw [← hvv] at HC
    have hap : applB x day r = !v := by
      rw [hvv]; unfold applB
      induction r.when_ with
      | nil => rfl
      | cons t l ih => simp only [List.all_cons, List.any_cons, ih, Bool.not_or, Bool.not_not]
    have hnn := HN.out
    have hlast : lastTo (applB x day) rs (n - k) = if applB x day r then (q : Int) else lastTo (applB x day) rs (n - (k + 1)) := by
      rw [show n - k = q + 1 by omega, show n - (k + 1) = q by omega]
      simp only [lastTo, hqr]
    have HLA : Hid (decI x rs day = if v then lastTo (applB x day) rs (n - (k + 1)) else (q : Int)) := (by rw [hn1.out, hlast, hap]; cases v <;> rfl : decI x rs day = _)
    have c0 := hbk.cell 0
    simp at c0
    obtain ⟨sv, mv, gz, -, -⟩ := hD1.at_
    have HGZ := Lib.hid gz
    have HL1 := Lib.hid hl1; have HR1 := Lib.hid hr1; have HS1 := Lib.hid hs1
    have hz3 : ∀ m : Nat, m ≠ z → some m ≠ some z := fun m h e => h (Option.some.inj e)
    have HZ3 := Lib.hid hz3
    have hr1c := hr1.cell 0; have hr1f := hr1.free 0
    simp at hr1c
    have hbs : b2 + 1 + 1 ≠ z := by omega
    clear hgood hap hlast hn1 hD1 hrul hqr hmem hvv hnn gz hl1 hr1 hs1 hz3 hk hq
    cases v with
    | true =>
      gi_wp2
      refine ⟨trivial, (CallsIn.inRound l (callsIn_wide.2 HC.out)).mono ?_⟩
      rintro e w2 ⟨rfl, hg2, hd2⟩
      have HG2 := Lib.hid hg2; have HD2 := Lib.hid hd2
      clear hg2 hd2
      gi_wp2
      exact ⟨keepsFrom_grown HG2.out HGZ.out, HD2.out, HL1.out.grown HG2.out (HZ3.out _ hbz), HR1.out.grown HG2.out (HZ3.out _ hbz1), HS1.out.grown HG2.out (HZ3.out _ hbs), HLA.out⟩
    | false =>
      gi_wp2
      refine ⟨trivial, (CallsIn.inRound l (callsIn_wide.2 HC.out)).mono ?_⟩
      rintro e w2 ⟨rfl, hg2, hd2⟩
      have hr2 := HR1.out.grown hg2 (HZ3.out _ hbz1)
      have HG2 := Lib.hid hg2; have HD2 := Lib.hid hd2
      have r2c := hr2.cell 0; have r2f := hr2.free 0
      simp at r2c
      have HR2 := Lib.hid (hr2.set 0 (.int .i64 (q : Int)))
      have HR2b := Lib.hid hr2
      clear hg2 hd2 hr2 hr1c hr1f
      gi_wp2
      exact ⟨(keepsFrom_grown HG2.out HGZ.out).trans ((KeepsOthers.setCell _ _ _).from _), rfl, HD2.out.setFar (by omega) hbz1 HR2b.out _, by rw [HLA.out]; exact HR2.out⟩
  case hdone =>
    rintro D W ⟨hD1, hl1, hr1, hs1, hn1⟩ hD hDW
    have HR : Hid (decI x rs day = -1) := (by rw [hn1.out, HN.out, Nat.sub_self]; rfl : decI x rs day = -1)
    have r1c := hr1.cell 0; have r1f := hr1.free 0
    simp at r1c
    have HD1 := Lib.hid hD1; have HR1 := Lib.hid hr1; have HDW := Lib.hid hDW
    clear hD1 hr1 hDW hn1 hl1 hs1
    go_wp2
    have hK2 := (KeepsOthers.setCell W ⟨b2 + 1, 0, none⟩ (.int .i64 (-1))).same _ _ HDW.out rfl
    have m6 := (HR1.out.set 0 (.int .i64 (-1))).putObj (o' := .deferred none) hK2 rfl
    have x6 := m6.cell 0
    simp at x6
    refine marks_ret1 (v := .int .i64 (-1)) rfl hK2 (by simp [results, Tryz.results87, go_sem, x6]) ?_
    rw [HR.out]
    exact ⟨rfl, (LkD.stab (Nat.le_refl _)).putObj _ (HD1.out.setFar (by omega) hbz1 HR1.out _) (by omega) hK2 rfl⟩
  case hstop =>
    rintro D c W ⟨rfl, hD1, hr1⟩ hD hDW
    refine wp_ret ?_
    have m6 := hr1.putObj (o' := .deferred none) hDW rfl
    have x6 := m6.cell 0
    simp at x6
    refine marks_ret1 (v := .int .i64 (decI x rs day)) rfl hDW (by simp [results, Tryz.results87, go_sem, x6]) ?_
    exact ⟨rfl, (LkD.stab (Nat.le_refl _)).putObj _ hD1 (by omega) hDW rfl⟩
end Go.Proofs.YtfbnllmmoaialaaGreat
namespace Go.Proofs.YtfbnllmmoaialaaGreat
open Go.RowKit

/-- a day is allowed -/
def allowB (x : Alm) (rs : List DRl) (day : Int) : Bool := decide (0 ≤ decI x rs day) && (match rs[(decI x rs day).toNat]? with | some r => r.allow | none => false)
set_option maxRecDepth 100000 in
set_option maxHeartbeats 2000000 in
theorem allows_any (x : Alm) (z A f0 M : Nat) (day : Int) (A2 : Option Addr) (c2 : Nat) (rs : List DRl) (w : World) (hx : almB x = true) (d0 : 0 ≤ day) (d1 : day ≤ 1000000)
    (hs : LkS x z A f0 M w) (hd : LkD x z A M day w w) (hr : RlsAt w z A2 rs) (hv : ∀ r ∈ rs, badR x.cycles r = false) :
    Calls Tryz.prog 52 #[.pointer (some ⟨z, 0, none⟩), .slice A2 rs.length c2] w fun e w' => e = .returned (.bool (allowB x rs day)) ∧ LkD x z A M day w w' := by
  have HC := Lib.hid (decides_any x z A f0 M day A2 c2 rs w hx d0 d1 hs hd hr hv)
  have hb := lastTo_bd (applB x day) rs rs.length (Nat.le_refl _)
  have HB : Hid (allowB x rs day = (decide (0 ≤ decI x rs day) && (match rs[(decI x rs day).toNat]? with | some r => r.allow | none => false))) := (rfl : allowB x rs day = _)
  obtain ⟨i, hi⟩ : ∃ i, i = decI x rs day := ⟨_, rfl⟩
  have hb : -1 ≤ i ∧ i < rs.length := by rw [hi]; exact hb
  rw [← hi] at HC HB
  clear hi
  have hlz := hs.lz
  by_cases h0 : 0 ≤ i
  · obtain ⟨n, rfl⟩ := Int.eq_ofNat_of_zero_le h0
    have hn : n < rs.length := by omega
    have HT : ∀ r : DRl, r = rs[n] → Hid (allowB x rs day = r.allow) := fun r hr => (by
      rw [HB.out, Int.toNat_natCast, List.getElem?_eq_getElem hn, ← hr, decide_eq_true h0]; rfl : allowB x rs day = r.allow)
    have HR : Hid (∀ W, w.grownBy W (some z) → RlsAt W z A2 rs) := fun W h => hr.grown h hlz
    have HX : ∀ W, w.grownBy W (some z) → ∃ ab ao, A2 = some ⟨ab, ao, none⟩ ∧ W.cell? ⟨ab, ao + n * 2 + 1, none⟩ = some (.bool (rs[n]).allow) ∧ W.cell? ⟨ab, ao + n * 2, none⟩ = some (.slice (rs[n]).wa (rs[n]).when_.length (rs[n]).wc) := fun W h => by
      obtain ⟨ab, ao, e, -, hcell⟩ := (HR.out W h).sl.at_ (k := n) (fun _ => rfl) hn
      exact ⟨ab, ao, e, hcell 1 _ rfl, hcell 0 _ rfl⟩
    have HXX := Lib.hid HX
    have HTT := Lib.hid (HT _ rfl)
    obtain ⟨m, hm⟩ : ∃ m, m = rs.length := ⟨_, rfl⟩
    rw [← hm] at HC hn ⊢
    have k0 : (0 : Int) ≤ (n : Int) := by omega
    have k1 : (n : Int) < (m : Int) := by omega
    clear HX HT HR hb h0 hs hd hr hv hx hm HB
    go_enter Tryz.func52, Tryz.ntmps52
    go_wp2_with (go_at_call 87; refine HC.out.mono ?_; rintro _ W1 ⟨rfl, hd1⟩; refine Hid.out ?_)
    obtain ⟨ab, ao, rfl, q1, q0⟩ := HXX.out _ hd1.gr
    have HD1 := Lib.hid hd1
    clear hd1 HXX
    obtain ⟨v, hv⟩ : ∃ v, v = (rs[n]'(by omega)).allow := ⟨_, rfl⟩
    rw [← hv] at q1 HTT
    clear q0 hv
    refine Lib.hid ?_
    go_wp2
    go_ret
    exact ⟨ret_bool HTT.out.symm, HD1.out⟩
  · obtain rfl : i = -1 := by omega
    have HT : Hid (allowB x rs day = false) := (by rw [HB.out]; rfl : allowB x rs day = false)
    clear hb h0 hs hd hr hv hx HB
    go_enter Tryz.func52, Tryz.ntmps52
    go_wp2_with (go_at_call 87; refine HC.out.mono ?_; rintro _ W1 ⟨rfl, hd1⟩)
    go_ret
    exact ⟨ret_bool HT.out.symm, hd1⟩
theorem bothE_zero {x : Alm} {rs : List DRl} (h : bothE x rs = 0) : almB x = true ∧ rs.length ≤ 30 ∧ ∀ r ∈ rs, badR x.cycles r = false := by
  unfold bothE at h
  cases hx : almB x with
  | false => rw [hx] at h; simp at h
  | true =>
    rw [hx] at h
    simp only [if_true, chkE] at h
    split at h
    · omega
    · split at h
      · omega
      · rename_i h1 h2
        refine ⟨rfl, by omega, fun r hr => ?_⟩
        have h3 : rs.any (badR x.cycles) = false := by simpa using h2
        have := List.any_eq_false.1 h3 r hr
        simpa using this
theorem bothE_cases (x : Alm) (rs : List DRl) : bothE x rs = 0 ∨ bothE x rs = 2 ∨ bothE x rs = 4 ∨ bothE x rs = 5 := by
  unfold bothE chkE
  split
  · split
    · simp
    · split <;> simp
  · simp
theorem both_val {x : Alm} {A2 : Option Addr} {c2 : Nat} {rs : List DRl} {v : Int} (h : bothE x rs = v) (w : World) (hl : x.cycles.length ≤ 1000000) (hc : Sl Cyc.cells 2 w w.heap.size x.a x.cycles) (hr : RlsAt w w.heap.size A2 rs) :
    Calls Tryz.prog 23 #[.agg x.cells.toArray, .slice A2 rs.length c2] w fun e w' => e = .returned (.int .i64 v) ∧ Below w.heap.size w w' := h ▸ both_any x A2 c2 rs w hl hc hr
/-- whether a day is allowed, and which rule decides, or the error -/
def allowedR (x : Alm) (rs : List DRl) (day : Int) : Bool × Int × Int := if bothE x rs = 0 then (if inB day 0 1000000 then (allowB x rs day, decI x rs day, 0) else (false, 0, 3)) else (false, 0, bothE x rs)
end Go.Proofs.YtfbnllmmoaialaaGreat
namespace Go.Proofs.YtfbnllmmoaialaaGreat
open Go.RowKit

/-- what holds of a world holds when block z, or a block from B on that is no cells, has turned, or blocks have come -/
def StabZ (B z : Nat) (I : World → Prop) : Prop :=
  ∀ W W' row, I W → W.grownBy W' row → (∀ r, row = some r → B ≤ r ∧ (r = z ∨ ∃ o : Obj, W.heap[r]? = some o ∧ o.isCells = false)) → I W'
theorem StabZ.stab {B z : Nat} {I : World → Prop} (h : StabZ B z I) : Stab B I := fun W W' row hi hg hr => h W W' row hi hg fun r e => ⟨(hr r e).1, .inr (hr r e).2⟩
theorem StabZ.and {B z : Nat} {I I' : World → Prop} (h : StabZ B z I) (h' : StabZ B z I') : StabZ B z (fun W => I W ∧ I' W) := fun W W' row hs hg hr => ⟨h W W' row hs.1 hg hr, h' W W' row hs.2 hg hr⟩
theorem StabZ.pure {B z : Nat} (p : Prop) : StabZ B z (fun _ => p) := fun _ _ _ h _ _ => h
theorem StabZ.ex {B z : Nat} {α : Type} {I : α → World → Prop} (h : ∀ x, StabZ B z (I x)) : StabZ B z (fun W => ∃ x, I x W) := fun W W' row ⟨x, hx⟩ hg hr => ⟨x, h x W W' row hx hg hr⟩
theorem StabZ.low {B z b : Nat} (hb : b ≤ B) (w : World) (hw : b ≤ w.heap.size) : StabZ B z (fun W => Below b w W) := fun W W' row hs hg hr =>
  hs.grown hg (Nat.le_trans hw hs.size) (fun k e => Nat.le_trans hb (hr k e).1)
theorem StabZ.blk {B z : Nat} (b : Nat) (hb : b ≠ z) (cs : Array Value) (t : TypeId) (f : Nat × Nat) : StabZ B z (fun W => W.heap[b]? = some (.cells cs t f)) := fun W W' row hs hg hr => by
  refine (hg.block b (Array.getElem?_eq_some_iff.1 hs).1 fun e => ?_).trans hs
  rcases (hr b e.symm).2 with h | ⟨o, ho, hc⟩
  · exact hb h
  · rw [hs] at ho; cases ho; cases hc
theorem StabZ.lowBlk {B z : Nat} (b : Nat) (hb : b < B) (o : Obj) : StabZ B z (fun W => W.heap[b]? = some o) := fun W W' row hs hg hr => by
  refine (hg.block b (Array.getElem?_eq_some_iff.1 hs).1 fun e => ?_).trans hs
  have := (hr b e.symm).1; omega
theorem StabZ.size {B z n : Nat} : StabZ B z (fun W => n ≤ W.heap.size) := fun _ _ _ hs hg _ => Nat.le_trans hs hg.size
theorem StabZ.owns {B z base : Nat} (e : TypeId) (size : Nat) (v : Value) (n : Nat) (xs : List Value) (hz : z < base) : StabZ B z (fun W => W.ownsRow base e size v n xs) := fun W W' row hs hg hr => by
  refine hs.kept hg ?_
  rcases hs.2 with ⟨rfl, _⟩ | ⟨g, cap, cur, rfl, hbase, hgb, _⟩
  · exact .inl rfl
  · refine .inr fun ee => ?_
    rcases (hr g ee.symm).2 with h | ⟨o, ho, hc⟩
    · omega
    · rw [hgb] at ho; cases ho; cases hc
theorem grownZ_of_below {w w' : World} (z : Nat) (h : Below w.heap.size w w') : w.grownBy w' (some z) := ⟨h.os, h.tape, h.output, h.size, fun k hk _ => h.block k hk⟩

/-- THE ITERATOR: it makes a block z of its own, of which D tells; round k is handed what Enc says. -/
def IterZ (gf : Nat) (lb : Array Value) (off : Nat) (D0 : World → Prop) (D : Nat → World → Prop) (Enc : Nat → World → Array Value → Prop) (N : Nat) : Prop :=
  ∀ (l : Nat) (J : Nat → Nat → World → Prop) (J0 Jx : World → Prop) (W : World),
    (∀ W W', J0 W → Below W.heap.size W W' → J0 W') →
    (∀ z k V V', J z k V → Below V.heap.size V V' → J z k V') →
    (∀ z k V V', W.heap.size ≤ z → J z k V → V.grownBy V' (some z) → J z k V') →
    (∀ V V', Jx V → Below V.heap.size V V' → Jx V') → (∀ V, J0 V → D0 V) →
    (∀ z V, W.heap.size + off ≤ z → z < V.heap.size → D z V → J0 V → J z 0 V) →
    (∀ z k V xs, W.heap.size + off ≤ z → k < N → J z k V → D z V → Enc k V xs → YieldAt Fence.wide 1 Tryz.prog l xs V fun e V' => (e = .returned (.bool true) ∧ J z (k + 1) V' ∧ D z V') ∨ (e = .returned (.bool false) ∧ Jx V')) →
    J0 W → Calls Tryz.prog gf (#[.func (.yield l) #[] #[]] ++ lb) W fun e W' => (∃ v, e = .returned v) ∧ ((∃ z, W.heap.size + off ≤ z ∧ J z N W') ∨ Jx W')

theorem wp_rangeZ {g : Operand} {ps : Array Tmp} {assign body : Code} {Q : Exit → Act → World → Prop} {a : Act} {w : World} {gf : Nat} {lb : Array Value}
    (hg : a.eval g = .func (.func gf) #[] lb) (eg : Ent gf) {D0 : World → Prop} {D : Nat → World → Prop} {Enc : Nat → World → Array Value → Prop} {N off : Nat} (hit : IterZ gf lb off D0 D Enc N)
    (I : Nat → Nat → World → Prop) (Ix : Code → World → Prop) (Ax : Nat → Nat → Act → World → Prop)
    (hI : ∀ z k, w.heap.size + 1 + off < z → StabZ w.heap.size z (I z k)) (hIx : ∀ c, Stab w.heap.size (Ix c)) (hDs : ∀ z W b o', w.heap.size + 1 + off < z → w.heap.size ≤ b → b ≤ w.heap.size + 1 → D z W → D z (W.putObj b o')) (hAx : ∀ z k a₁ W b o o', w.heap.size + 1 + off < z → w.heap.size ≤ b → b ≤ w.heap.size + 1 → W.heap[b]? = some o → o.isCells = false → Ax z k a₁ W → Ax z k a₁ (W.putObj b o'))
    (hD0 : ∀ W, Below w.heap.size w W → D0 W) (h0 : ∀ z W, w.heap.size + 1 + off < z → z < W.heap.size → Below w.heap.size w W → I z 0 W)
    (hps : ∀ k W xs, k < N → Enc k W xs → xs.size = ps.size)
    (hassign : ∀ l z k xs W, w.heap.size + 1 + off < z → k < N → I z k W → D z W → Enc k W xs → w.heap.size < l → l < z → assign.wpIn (Fence.wide.inRound l) 1 Tryz.prog (assignOut w.heap.size (Ax z k) W) { tmps := (ps.zip xs).foldl (fun t (p, v) => t.setIfInBounds p v) a.tmps, defers := [] } W)
    (hbody : ∀ l z k a₁ W, w.heap.size + 1 + off < z → k < N → Ax z k a₁ W → w.heap.size < l → l < z → body.wpIn (Fence.wide.inRound l) 1 Tryz.prog (roundOut w.heap.size (fun W' => I z (k + 1) W' ∧ D z W') Ix W) a₁ W)
    (hdone : ∀ z D W, w.heap.size + 1 + off < z → I z N W → w.heap.size ≤ D → W.heap[D]? = some (.deferred (some [])) → Q .normal { a with defers := { target := .collected D, args := #[] } :: a.defers } W)
    (hstop : ∀ D c W, Ix c W → w.heap.size ≤ D → W.heap[D]? = some (.deferred (some [])) → c.wp Tryz.prog Q { a with defers := { target := .collected D, args := #[] } :: a.defers } W) :
    (Code.rangeFunc g ps assign body).wp Tryz.prog Q a w := by
  rw [← wpIn_wide (n := 2)]
  refine wpIn_rangeFunc ?_
  intro fn hfn
  have hro : Fence.wide.round = none := rfl
  rw [hro]
  obtain ⟨rec, hrec⟩ : ∃ rec : LoopState → Option Code → Loop, rec = fun st pe => { state := st, pending := pe, fn, tmps := a.tmps, params := ps, assign, body, defers := w.heap.size } := ⟨_, rfl⟩
  obtain ⟨W1, hW1⟩ : ∃ W1, (w.alloc (.deferred (some []))).alloc (.loop (rec .ready none)) = W1 := ⟨_, rfl⟩
  have hL1 : W1.heap[w.heap.size + 1]? = some (.loop (rec .ready none)) := by
    rw [← hW1]; have := World.alloc_heap_new (w.alloc (.deferred (some []))) (.loop (rec .ready none)); rwa [World.size_alloc] at this
  have hK1 : W1.heap[w.heap.size]? = some (.deferred (some [])) := by
    rw [← hW1]; exact (Below.heap_alloc _ _ _ (by simp)).trans (World.alloc_heap_new w _)
  have hb1 : Below w.heap.size w W1 := by rw [← hW1]; exact ((Below.refl _ w).alloc (Nat.le_refl _) _).alloc (by simp) _
  have hz1 : W1.heap.size = w.heap.size + 2 := by rw [← hW1]; simp
  have keepL : ∀ {W W' : World} {k : Nat} {o : Obj}, Below W.heap.size W W' → W.heap[k]? = some o → W'.heap[k]? = some o := fun hb ho => (hb.block _ (Array.getElem?_eq_some_iff.1 ho).1).trans ho
  refine ⟨w.heap.size + 1, [{ target := .collected w.heap.size, args := #[] }], W1, { target := .fn (.func gf) lb, args := #[.func (.yield (w.heap.size + 1)) #[] #[]] }, W1, gf,
    #[.func (.yield (w.heap.size + 1)) #[] #[]] ++ lb, W1, ?_, ?_, ?_, ?_, fun _ => by omega, ?_⟩
  · rw [← hW1, hrec]; exact run_enterLoop_outer _ _ _ _ _
  · simp only [resolve, hg]
    simp [go_sem]
  · intro f' hf'; trivial
  · simp [invoke, go_sem, eg _ _]
  · refine callsIn_wide.2 ?_
    refine (hit (w.heap.size + 1)
      (fun z k W => w.heap.size + 1 + off < z ∧ I z k W ∧ W.heap[w.heap.size + 1]? = some (.loop (rec .ready none)) ∧ W.heap[w.heap.size]? = some (.deferred (some [])))
      (fun W => Below w.heap.size w W ∧ W.heap[w.heap.size + 1]? = some (.loop (rec .ready none)) ∧ W.heap[w.heap.size]? = some (.deferred (some [])))
      (fun W => ∃ c, Ix c W ∧ W.heap[w.heap.size + 1]? = some (.loop (rec .done (some c))) ∧ W.heap[w.heap.size]? = some (.deferred (some [])))
      W1 (fun W W' h hb => ⟨h.1.trans (hb.mono h.1.size), keepL hb h.2.1, keepL hb h.2.2⟩)
      (fun z k W W' h hb => ⟨h.1, (hI z k h.1).stab.below h.2.1 hb, keepL hb h.2.2.1, keepL hb h.2.2.2⟩)
      (fun z k W W' hz h hg => ⟨h.1, hI z k h.1 W W' (some z) h.2.1 hg (fun r e => by cases e; exact ⟨by omega, .inl rfl⟩),
        (hg.block _ (Array.getElem?_eq_some_iff.1 h.2.2.1).1 (by intro e; have := Option.some.inj e; omega)).trans h.2.2.1,
        (hg.block _ (Array.getElem?_eq_some_iff.1 h.2.2.2).1 (by intro e; have := Option.some.inj e; omega)).trans h.2.2.2⟩)
      (fun W W' ⟨c, h⟩ hb => ⟨c, (hIx c).below h.1 hb, keepL hb h.2.1, keepL hb h.2.2⟩) (fun W h => hD0 W h.1)
      (fun z W hz hzW _ h => ⟨by omega, h0 z W (by omega) hzW h.1, h.2.1, h.2.2⟩) ?_ ⟨hb1, hL1, hK1⟩).mono ?_
    · rintro z k W xs hz hk ⟨hzz, hi, hl, hkk⟩ hd henc
      have hlt : w.heap.size + 1 < W.heap.size := (Array.getElem?_eq_some_iff.1 hl).1
      have hy := run_yield (P := Tryz.prog) (args := xs) hl (by rw [hrec]; exact hps k W xs hk henc)
      rw [hrec] at hy
      refine ⟨fn, _, assign, body, hy, roundIn_of_wpIn hfn (wpIn_mono (hassign _ z k xs W hzz hk hi hd henc (by omega) (by omega)) ?_)⟩
      intro e a₁ W2 hp
      cases e with
      | normal =>
        obtain ⟨hkf, hax⟩ := hp
        have hl2 := hkf.same _ _ (by omega) hl rfl
        have hk2 := hkf.same _ _ (Nat.le_refl _) hkk rfl
        refine ⟨_, run_beginRound hl2 (by rw [hrec]), ?_⟩
        have hlt2 : w.heap.size + 1 < W2.heap.size := (Array.getElem?_eq_some_iff.1 hl2).1
        have hl3 : (W2.putObj (w.heap.size + 1) (.loop { rec .ready none with state := .busy })).heap[w.heap.size + 1]? = some (.loop { rec .ready none with state := .busy }) := World.putObj_heap_same hlt2
        have hk3 : (W2.putObj (w.heap.size + 1) (.loop { rec .ready none with state := .busy })).heap[w.heap.size]? = some (.deferred (some [])) := (World.putObj_heap_other (by omega)).trans hk2
        refine wpIn_mono (hbody _ z k a₁ _ hzz hk (hAx z k a₁ _ _ _ _ hzz (by omega) (by omega) hl2 rfl hax) (by omega) (by omega)) ?_
        have fin : ∀ (jump : Option Code) (W3 : World), KeepsFrom w.heap.size (W2.putObj (w.heap.size + 1) (.loop { rec .ready none with state := .busy })) W3 →
            (Instr.endRound (w.heap.size + 1) jump).run Tryz.prog W3 = .ok (.bool jump.isNone) (W3.putObj (w.heap.size + 1) (.loop (rec (if jump.isNone then .ready else .done) jump))) ∧
            W3.heap[w.heap.size + 1]? = some (.loop { rec .ready none with state := .busy }) ∧
            (W3.putObj (w.heap.size + 1) (.loop (rec (if jump.isNone then .ready else .done) jump))).heap[w.heap.size + 1]? = some (.loop (rec (if jump.isNone then .ready else .done) jump)) ∧
            (W3.putObj (w.heap.size + 1) (.loop (rec (if jump.isNone then .ready else .done) jump))).heap[w.heap.size]? = some (.deferred (some [])) := fun jump W3 hk4 => by
          have hl4 := hk4.same _ _ (by omega) hl3 rfl
          have := run_endRound (P := Tryz.prog) jump hl4
          rw [hrec] at this ⊢
          exact ⟨this, by rw [hrec] at hl4; exact hl4, World.putObj_heap_same (Array.getElem?_eq_some_iff.1 hl4).1, (World.putObj_heap_other (by omega)).trans (hk4.same _ _ (Nat.le_refl _) hk3 rfl)⟩
        rintro e a3 W3 hp
        cases e with
        | normal =>
          obtain ⟨hk4, hi3, hd3⟩ := hp
          obtain ⟨hr, hl4, hl5, hk5⟩ := fin none W3 hk4
          exact ⟨_, _, hr, .inl ⟨rfl, ⟨hzz, (hI z _ hzz).stab.putObj _ hi3 (by omega) hl4 rfl, hl5, hk5⟩, hDs z _ _ _ hzz (by omega) (by omega) hd3⟩⟩
        | ret =>
          obtain ⟨hk4, hi3⟩ := hp
          obtain ⟨hr, hl4, hl5, hk5⟩ := fin (some .ret) W3 hk4
          exact ⟨_, _, hr, .inr ⟨rfl, .ret, (hIx _).putObj _ hi3 (by omega) hl4 rfl, hl5, hk5⟩⟩
        | exit id =>
          obtain ⟨hk4, hi3⟩ := hp
          obtain ⟨hr, hl4, hl5, hk5⟩ := fin (some (.exit id)) W3 hk4
          exact ⟨_, _, hr, .inr ⟨rfl, .exit id, (hIx _).putObj _ hi3 (by omega) hl4 rfl, hl5, hk5⟩⟩
        | goto t =>
          obtain ⟨hk4, hi3⟩ := hp
          obtain ⟨hr, hl4, hl5, hk5⟩ := fin (some (.goto t)) W3 hk4
          exact ⟨_, _, hr, .inr ⟨rfl, .goto t, (hIx _).putObj _ hi3 (by omega) hl4 rfl, hl5, hk5⟩⟩
        | panic ch => exact hp.elim
        | outgrown => exact hp.elim
      | ret => exact hp.elim
      | exit id => exact hp.elim
      | goto t => exact hp.elim
      | panic ch => exact hp.elim
      | outgrown => exact hp.elim
    · rintro e W2 ⟨⟨v, rfl⟩, (⟨z, -, hzz, hi, hl, hkk⟩ | ⟨c, hi, hl, hkk⟩)⟩
      · exact ⟨none, _, by have := run_endLoop (P := Tryz.prog) hl (by rw [hrec]; simp); rw [hrec] at this; exact this, hdone z _ _ hzz ((hI z _ hzz).stab.putObj _ hi (by omega) hl rfl) (Nat.le_refl _) ((World.putObj_heap_other (by omega)).trans hkk)⟩
      · exact ⟨some c, _, by have := run_endLoop (P := Tryz.prog) hl (by rw [hrec]; simp); rw [hrec] at this; exact this, wpIn_wide.2 (hstop _ c _ ((hIx c).putObj _ hi (by omega) hl rfl) (Nat.le_refl _) ((World.putObj_heap_other (by omega)).trans hkk))⟩

theorem wp_rangeSZ {g : Operand} {ps : Array Tmp} {assign body : Code} {Q : Exit → Act → World → Prop} {a : Act} {w : World} {gf : Nat} {lb : Array Value}
    (hg : a.eval g = .func (.func gf) #[] lb) (eg : Ent gf) {D0 : World → Prop} {D : Nat → World → Prop} {Enc : Nat → World → Array Value → Prop} {N off : Nat} (hit : IterZ gf lb off D0 D Enc N)
    (sl : List (Tmp × Nat)) (I : Nat → Nat → World → Prop) (Ix : Code → World → Prop)
    (hI : ∀ z k, w.heap.size + 1 + off < z → StabZ w.heap.size z (I z k)) (hIx : ∀ c, Stab w.heap.size (Ix c)) (hDs : ∀ z W b o', w.heap.size + 1 + off < z → w.heap.size ≤ b → b ≤ w.heap.size + 1 → D z W → D z (W.putObj b o')) (hE : ∀ k xs, Stab w.heap.size (fun W => Enc k W xs))
    (hD0 : ∀ W, Below w.heap.size w W → D0 W) (h0 : ∀ z W, w.heap.size + 1 + off < z → z < W.heap.size → Below w.heap.size w W → I z 0 W)
    (hps : ∀ k W xs, Enc k W xs → xs.size = ps.size)
    (hassign : ∀ l k xs W (K : Act → World → Prop), Enc k W xs → K (roundAct a.tmps ps sl xs) W → assign.wpIn (Fence.wide.inRound l) 1 Tryz.prog (Exit.then K (fun _ _ _ => False)) { tmps := (ps.zip xs).foldl (fun t (p, v) => t.setIfInBounds p v) a.tmps, defers := [] } W)
    (hbody : ∀ l z k xs W, w.heap.size + 1 + off < z → k < N → I z k W → D z W → Enc k W xs → w.heap.size < l → l < z → body.wpIn (Fence.wide.inRound l) 1 Tryz.prog (roundOut w.heap.size (fun W' => I z (k + 1) W' ∧ D z W') Ix W) (roundAct a.tmps ps sl xs) W)
    (hdone : ∀ z D W, w.heap.size + 1 + off < z → I z N W → w.heap.size ≤ D → W.heap[D]? = some (.deferred (some [])) → Q .normal { a with defers := { target := .collected D, args := #[] } :: a.defers } W)
    (hstop : ∀ D c W, Ix c W → w.heap.size ≤ D → W.heap[D]? = some (.deferred (some [])) → c.wp Tryz.prog Q { a with defers := { target := .collected D, args := #[] } :: a.defers } W) :
    (Code.rangeFunc g ps assign body).wp Tryz.prog Q a w := by
  refine wp_rangeZ hg eg hit I Ix (fun z k a₁ W => I z k W ∧ D z W ∧ ∃ xs, Enc k W xs ∧ a₁ = roundAct a.tmps ps sl xs) hI hIx hDs (fun z k a₁ W b o o' hz h1 h2 ho hoc ⟨hi, hd, xs, he, e⟩ => ⟨(hI z k hz).stab.putObj _ hi h1 ho hoc, hDs z _ _ _ hz h1 h2 hd, xs, (hE k xs).putObj _ he h1 ho hoc, e⟩) hD0 h0
    (fun k W xs _ h => hps k W xs h) (fun l z k xs W hz hk hi hd he _ _ => ?_) (fun l z k a₁ W hz hk hax h1 h2 => ?_) hdone hstop
  · refine wpIn_mono (hassign l k xs W (fun a₁ W' => a₁ = roundAct a.tmps ps sl xs ∧ W' = W) he ⟨rfl, rfl⟩) ?_
    intro e a₁ W' hp
    cases e with
    | normal => obtain ⟨rfl, rfl⟩ := hp; exact ⟨KeepsFrom.refl _ _, hi, hd, xs, he, rfl⟩
    | ret => exact hp.elim
    | exit id => exact hp.elim
    | goto t => exact hp.elim
    | panic ch => exact hp.elim
    | outgrown => exact hp.elim
  · obtain ⟨hi, hd, xs, he, rfl⟩ := hax
    exact hbody l z k xs W hz hk hi hd he h1 h2
end Go.Proofs.YtfbnllmmoaialaaGreat

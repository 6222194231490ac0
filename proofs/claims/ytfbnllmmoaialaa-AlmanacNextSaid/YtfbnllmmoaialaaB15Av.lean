/- almanac: which rule decides a day; whether it is allowed. -/
import Derived.Test.YtfbnllmmoaialaaB14As
namespace Go.Proofs.Ytfbnllmmoaialaa
open Go.RowKit
attribute [local go_sem] Oper.semAt_some

theorem LkD.stab {x : Alm} {z A M B : Nat} {day : Int} {V : World} (hB : V.heap.size ≤ B) : Stab B (fun W => LkD x z A M day V W) := by
  intro W W' row h hg hr
  have hcell : ∀ {b : Nat} {cs : Array Value} {t : TypeId}, Blk W b cs t → Blk W' b cs t := fun hb => hb.grown hg (fun e => by
    obtain ⟨_, o, ho, hc⟩ := hr _ e.symm
    unfold Blk at hb; rw [hb] at ho; cases ho; cases hc)
  obtain ⟨sv, mv, h1, h2, h3⟩ := h.at_
  refine ⟨⟨hg.os.trans h.gr.os, hg.tape.trans h.gr.tape, hg.output.trans h.gr.output, Nat.le_trans h.gr.size hg.size, fun i hi hne => (hg.block i (Nat.lt_of_lt_of_le hi h.gr.size) (fun e => by have := (hr i e.symm).1; omega)).trans (h.gr.block i hi hne)⟩, sv, mv, hcell h1, ?_, ?_⟩
  · rcases h2 with h2 | ⟨b, e1, e2, e3⟩
    · exact .inl h2
    · exact .inr ⟨b, e1, e2, hcell e3⟩
  · rcases h3 with h3 | ⟨b, e1, e2, e3⟩
    · exact .inl h3
    · exact .inr ⟨b, e1, e2, hcell e3⟩
theorem LkD.setFar {x : Alm} {z A M n i : Nat} {day : Int} {V W : World} {old : Value} {t : TypeId} (h : LkD x z A M day V W) (hn : V.heap.size ≤ n) (hnz : n ≠ z) (hb : Blk W n #[old] t) (v : Value) : LkD x z A M day V (W.setCell ⟨n, i, none⟩ v) := by
  obtain ⟨sv, mv, h1, h2, h3⟩ := h.at_
  refine ⟨grown_setN h.gr hn v, sv, mv, h1.far _ (fun e => hnz e.symm) _, ?_, ?_⟩
  · rcases h2 with h2 | ⟨b, e1, e2, e3⟩
    · exact .inl h2
    · refine .inr ⟨b, e1, e2, e3.far _ (fun e => ?_) _⟩
      have e : b = n := e
      subst e
      unfold Blk at hb e3
      rw [hb] at e3
      have := Option.some.inj e3
      simp [SDate.cells] at this
  · rcases h3 with h3 | ⟨b, e1, e2, e3⟩
    · exact .inl h3
    · refine .inr ⟨b, e1, e2, e3.far _ (fun e => ?_) _⟩
      have e : b = n := e
      subst e
      unfold Blk at hb e3
      rw [hb] at e3
      have := Option.some.inj e3
      simp [LDate.cells] at this
abbrev rlv (r : DRl) : Value := .agg #[.slice r.wa r.when_.length r.wc, .bool r.allow]
/-- what a round over the rules from the last one on is handed -/
def EncBack (rs : List DRl) (k : Nat) (_ : World) (xs : Array Value) : Prop := ∃ q r, q + 1 + k = rs.length ∧ rs[q]? = some r ∧ xs = #[.int .i64 (q : Int), rlv r]
theorem ent_bw1 : Ent 124 := ent_of Try.func124 (by kernel_rfl) rfl
set_option maxRecDepth 100000 in
set_option maxHeartbeats 1000000 in
theorem bw1_iter (rs : List DRl) (A2 : Option Addr) (c2 B : Nat) (hl : rs.length ≤ 1000000) :
    Iter 124 #[.pointer (some ⟨B, 0, none⟩)] (fun W => B < W.heap.size ∧ W.cell? ⟨B, 0, none⟩ = some (.slice A2 rs.length c2) ∧ Sl DRl.cells 2 W W.heap.size A2 rs) (EncBack rs) rs.length := by
  intro l J Jx W hJs hJxs hJD hY h0
  have HJs := Lib.hid hJs; have HJD := Lib.hid hJD; have HY := Lib.hid hY
  obtain ⟨hB, b0, _⟩ := hJD 0 W h0
  have H0 := Lib.hid h0
  clear hJs hJD hY h0 hJxs
  obtain ⟨n, hn⟩ : ∃ n, n = rs.length := ⟨_, rfl⟩
  rw [← hn] at HY hl b0 ⊢
  have HN := Lib.hid hn
  clear hn
  rw [← callsIn_wide (n := 2)]
  refine callsIn_of_wp Try.func124 rfl trivial ?_ rfl
  simp only [Try.ntmps124, List.size_toArray, List.length_cons, List.length_nil, Nat.reduceAdd, Nat.reduceSub, Array.replicate_succ, Array.replicate_zero, List.push_toArray, List.append_toArray, List.nil_append, List.cons_append]
  gi_wp2
  gi_loopw [3] (fun i wr => ∃ m : Nat, m ≤ n ∧ i = .int .i64 ((m : Int) - 1) ∧ Hid (J (n - m) wr)) (fun i _ => (intOf i + 1).toNat)
  case atStart => exact ⟨n, by omega, rfl, by rw [Nat.sub_self]; exact H0⟩
  case round =>
    obtain ⟨m, hm, rfl, hj⟩ := hrel
    cases m with
    | zero =>
      have hjn : Hid (J n wr) := hj
      gi_wp2
      go_end0
      exact ⟨⟨_, rfl⟩, .inl hjn.out⟩
    | succ q =>
      rw [show (((q + 1 : Nat) : Int) - 1) = (q : Int) by omega]
      obtain ⟨hB', q0, hsl⟩ := HJD.out _ wr hj.out
      rw [← HN.out] at q0
      obtain ⟨ab, ao, hra, hblk, hcell⟩ := hsl.at_ (k := q) (fun _ => rfl) (by rw [← HN.out]; omega)
      rw [hra] at q0
      have hge : rs[q]? = some rs[q] := List.getElem?_eq_getElem _
      obtain ⟨r, hr⟩ : ∃ r, r = rs[q]'(by rw [← HN.out]; omega) := ⟨_, rfl⟩
      rw [← hr] at hcell hge
      have c0 : wr.cell? ⟨ab, ao + q * 2, none⟩ = some (.slice r.wa r.when_.length r.wc) := hcell 0 _ rfl
      have c1 : wr.cell? ⟨ab, ao + q * 2 + 1, none⟩ = some (.bool r.allow) := hcell 1 _ rfl
      have hq0 : (0 : Int) ≤ (q : Int) := by omega
      have hq1 : (q : Int) < (n : Int) := by omega
      obtain ⟨fn, tmps, assign, body, hy, hR⟩ := HY.out (n - (q + 1)) wr #[.int .i64 (q : Int), rlv r] (by omega) hj.out ⟨q, r, by rw [← HN.out]; omega, hge, rfl⟩
      have HRR := Lib.hid hR
      rw [show n - (q + 1) + 1 = n - q by omega] at HRR
      clear hr hge hra hcell hsl hR hj
      gi_wp2
      refine HRR.out.mono ?_
      rintro e W3 (⟨rfl, hJ3⟩ | ⟨rfl, hJx3⟩)
      · have HJ3 := Lib.hid hJ3
        clear hJ3
        gi_wp2
        go_roundw
        case rel => exact ⟨q, by omega, rfl, HJ3⟩
        case measure => simp [intOf]
      · have HJ3 := Lib.hid hJx3
        clear hJx3
        gi_wp2
        refine bodyPost_ret (results_none rfl _ _ _) rfl ?_
        exact ⟨⟨_, rfl⟩, .inr HJ3.out⟩
theorem bw_any (A2 : Option Addr) (n c2 : Nat) (w : World) : Calls Try.prog 109 #[.slice A2 n c2] w fun e w' => e = .returned (.func (.func 124) #[] #[.pointer (some ⟨w.heap.size, 0, none⟩)]) ∧ w.alloc (.cells #[.slice A2 n c2] 29) = w' := by
  go_enter Try.func109, Try.ntmps109
  go_wp2
  go_ret
  exact ⟨rfl, rfl⟩
/-- the last of the first n rules with p, or -1 -/
def lastTo (p : DRl → Bool) (rs : List DRl) : Nat → Int
  | 0 => -1
  | n + 1 => match rs[n]? with
    | some r => if p r then (n : Int) else lastTo p rs n
    | none => lastTo p rs n
def applB (x : Alm) (day : Int) (r : DRl) : Bool := r.when_.all fun t => holdB x t day
/-- the rule that decides a day -/
def decI (x : Alm) (rs : List DRl) (day : Int) : Int := lastTo (applB x day) rs rs.length
theorem lastTo_bd (p : DRl → Bool) (rs : List DRl) : ∀ n, n ≤ rs.length → -1 ≤ lastTo p rs n ∧ lastTo p rs n < n
  | 0, _ => by simp [lastTo]
  | n + 1, h => by
    have ih := lastTo_bd p rs n (by omega)
    simp only [lastTo, List.getElem?_eq_getElem (show n < rs.length by omega)]
    split <;> omega
theorem RlsAt.grown {W W' : World} {z : Nat} {A : Option Addr} {l : List DRl} (h : RlsAt W z A l) (hg : W.grownBy W' (some z)) (hz : z < W.heap.size) : RlsAt W' z A l := by
  have hk : ∀ p : Addr, p.block < z → W'.cell? p = W.cell? p := fun p hp => World.cell?_of_block (hg.block p.block (by omega) (by intro e; have := Option.some.inj e; omega))
  exact ⟨h.len, h.sl.keep hk, fun r hr => ⟨(h.rul r hr).len, (h.rul r hr).set, (h.rul r hr).sl.keep hk⟩⟩
set_option maxRecDepth 100000 in
set_option maxHeartbeats 4000000 in
theorem decides_any (x : Alm) (z A f0 M : Nat) (day : Int) (A2 : Option Addr) (c2 : Nat) (rs : List DRl) (w : World) (hx : almB x = true) (d0 : 0 ≤ day) (d1 : day ≤ 1000000)
    (hs : LkS x z A f0 M w) (hd : LkD x z A M day w w) (hr : RlsAt w z A2 rs) (hv : ∀ r ∈ rs, badR x.cycles r = false) :
    Calls Try.prog 76 #[.pointer (some ⟨z, 0, none⟩), .slice A2 rs.length c2] w fun e w' => e = .returned (.int .i64 (decI x rs day)) ∧ LkD x z A M day w w' := by
  have hlz := hs.lz
  have hl := hr.len
  have HS := Lib.hid hs; have HD := Lib.hid hd; have HR := Lib.hid hr; have HV := Lib.hid hv
  obtain ⟨n, hn⟩ : ∃ n, n = rs.length := ⟨_, rfl⟩
  have HN := Lib.hid hn
  rw [← hn]
  clear hs hd hr hv hn
  refine calls_marks Try.func76 rfl ?_
  simp only [Try.ntmps76, List.size_toArray, List.length_cons, List.length_nil, Nat.reduceAdd, Nat.reduceSub, Array.replicate_succ, Array.replicate_zero, List.push_toArray, List.append_toArray, List.nil_append, List.cons_append]
  go_wp2_with (go_at_call 109; refine (bw_any _ _ _ _).mono ?_; rintro _ _ ⟨rfl, rfl⟩)
  obtain ⟨b2, hb2⟩ : ∃ b, b = w.heap.size := ⟨_, rfl⟩
  rw [← hb2]
  refine gen_w (fun W => W.heap.size = b2 + 1 + 1 + 1 ∧ LkD x z A M day w W ∧ Blk W b2 #[.pointer (some ⟨z, 0, none⟩)] 118 ∧ Blk W (b2 + 1) #[.int .i64 0] 3 ∧ Blk W (b2 + 1 + 1) #[.slice A2 n c2] 29) ⟨by simp [hb2], HD.out.below (by (repeat (first | exact Below.refl _ _ | assumption | (refine Below.alloc ?_ (by first | omega | (simp; omega) | (simp; done)) _) | (refine Below.setCell ?_ (by first | omega | (simp; omega) | (simp; done)) _) | (refine Below.drew ?_) | (refine belowN ?_ _) | (refine Below.trans ?_ (Below.mono ‹Below _ _ _› (by first | omega | (simp; omega) | (simp; done))))))), ((Blk.at_ hb2).alloc _).alloc _, (Blk.at_ (by simp [hb2])).alloc _, Blk.at_ (by simp [hb2])⟩ ?_
  rintro V ⟨hVz, hVd, gl, gr, gs⟩
  have hbz : b2 ≠ z := by omega
  have hbz1 : b2 + 1 ≠ z := by omega
  have hwb : w.heap.size ≤ b2 := by omega
  have hVZ := Lib.hid hVz
  have hvl : b2 + 1 + 1 < V.heap.size := by omega
  clear hb2 hVz
  have hRz : ∀ W, LkD x z A M day w W → RlsAt W z A2 rs := fun W h => HR.out.grown h.gr hlz
  refine wp_rangeBC (lb := #[.pointer (some ⟨b2 + 1 + 1, 0, none⟩)]) rfl ent_bw1 (bw1_iter rs A2 c2 (b2 + 1 + 1) hl) [(5, 0)] 6 (fun xs => match xs.getD 1 undef with | .agg cs => cs | _ => #[]) 83
    (fun k W => LkD x z A M day w W ∧ Blk W b2 #[.pointer (some ⟨z, 0, none⟩)] 118 ∧ Blk W (b2 + 1) #[.int .i64 0] 3 ∧ Blk W (b2 + 1 + 1) #[.slice A2 n c2] 29 ∧ Hid (decI x rs day = lastTo (applB x day) rs (n - k)))
    (fun c W => c = .ret ∧ LkD x z A M day w W ∧ Blk W (b2 + 1) #[.int .i64 (decI x rs day)] 3)
    (fun k => (LkD.stab (by omega)).and ((Stab.blk _ _ _ _).and ((Stab.blk _ _ _ _).and ((Stab.blk _ _ _ _).and (Stab.pure _))))) (fun c => (Stab.pure _).and ((LkD.stab (by omega)).and (Stab.blk _ _ _ _))) ?hE ?hD ⟨hVd, gl, gr, gs, ?h0⟩ ?hps ?hassign ?hbody ?hdone ?hstop
  case hE => exact fun k xs => Stab.ex fun q => Stab.ex fun r => (Stab.pure _).and ((Stab.pure _).and (Stab.pure _))
  case hD => exact fun k W hi => ⟨hi.2.2.2.1.lt, by rw [hi.2.2.2.1.cell, HN.out]; rfl, ((hRz W hi.1).sl).more (by have := hi.1.gr.size; omega)⟩
  case h0 => rw [HN.out]; exact rfl
  case hps => rintro k W xs ⟨q, r, _, _, rfl⟩; rfl
  case hassign =>
    rintro l k xs W K ⟨q, r, _, _, rfl⟩ hK
    rw [round2B] at hK
    rw [fold2]
    simp only [List.setIfInBounds_toArray, List.set_cons_succ, List.set_cons_zero] at hK ⊢
    gi_wp2
    exact hK _ ((Below.refl _ _).alloc (Nat.le_refl _) _) (Blk.new _ _ _)
  case hbody =>
    rintro l k xs b W hk ⟨hD1, hl1, hr1, hs1, hn1⟩ ⟨q, r, hq, hqr, rfl⟩ hbk hl2 hl3
    rw [round2B]
    simp only [List.setIfInBounds_toArray, List.set_cons_succ, List.set_cons_zero]
    have hbk : Blk W b #[.slice r.wa r.when_.length r.wc, .bool r.allow] 83 := hbk
    have hmem : r ∈ rs := List.mem_of_getElem? hqr
    have hrul := (hRz W hD1).rul r hmem
    have hgood : r.when_.any (fun t => !tstB x.cycles t) = false := by have := HV.out r hmem; simp only [badR, Bool.or_eq_false_iff] at this; exact this.2
    have HZ : Hid (LkS x z A f0 M W) := HS.out.grown hD1.gr
    have hzW : z < W.heap.size := HZ.out.lz
    obtain ⟨v, hvv⟩ : ∃ v, v = r.when_.any fun t => !holdB x t day := ⟨_, rfl⟩
    have HC := Lib.hid (tanyI_any 111 #[.pointer (some ⟨b2, 0, none⟩)] r.wa r.wc r.when_ (fun t => !holdB x t day) W (fun W' => W.grownBy W' (some z) ∧ LkD x z A M day w W') ent_dec1 hrul.len
      (fun W' h => ((hRz W' h.2).rul r hmem).sl.more (by have := h.1.size; omega))
      (fun t ht W' h => (dec1_any x z A f0 M b2 day t W' hx d0 d1 (hrul.set t ht) (by have := List.any_eq_false.1 hgood t ht; simpa using this) (HZ.out.grown h.1) h.2.self (hl1.grown h.1 (by intro e; exact hbz (Option.some.inj e))) hbz).mono
        fun e W2 ⟨he, hh⟩ => ⟨he, grown_same h.1 hh.gr, hh.base h.2.gr⟩) ⟨grownZ z (Below.refl _ _), hD1⟩)
    rw [← hvv] at HC
    have hap : applB x day r = !v := by
      rw [hvv]; unfold applB
      induction r.when_ with
      | nil => rfl
      | cons t l ih => simp only [List.all_cons, List.any_cons, ih, Bool.not_or, Bool.not_not]
    have hnn := HN.out
    have hlast : lastTo (applB x day) rs (n - k) = if applB x day r then (q : Int) else lastTo (applB x day) rs (n - (k + 1)) := by
      rw [show n - k = q + 1 by omega, show n - (k + 1) = q by omega]
      simp only [lastTo, hqr]
    have HLA : Hid (decI x rs day = if v then lastTo (applB x day) rs (n - (k + 1)) else (q : Int)) := (by rw [hn1.out, hlast, hap]; cases v <;> rfl : decI x rs day = _)
    have c0 := hbk.cell 0
    simp at c0
    obtain ⟨sv, mv, gz, -, -⟩ := hD1.at_
    have HGZ := Lib.hid gz
    have HL1 := Lib.hid hl1; have HR1 := Lib.hid hr1; have HS1 := Lib.hid hs1
    have hz3 : ∀ m : Nat, m ≠ z → some m ≠ some z := fun m h e => h (Option.some.inj e)
    have HZ3 := Lib.hid hz3
    have hr1c := hr1.cell 0; have hr1f := hr1.free 0
    simp at hr1c
    have hbs : b2 + 1 + 1 ≠ z := by omega
    clear hgood hap hlast hn1 hD1 hrul hqr hmem hvv hnn gz hl1 hr1 hs1 hz3 hk hq
    cases v with
    | true =>
      gi_wp2
      refine ⟨trivial, (CallsIn.inRound l (callsIn_wide.2 HC.out)).mono ?_⟩
      rintro e w2 ⟨rfl, hg2, hd2⟩
      have HG2 := Lib.hid hg2; have HD2 := Lib.hid hd2
      clear hg2 hd2
      gi_wp2
      exact ⟨keepsFrom_grown HG2.out HGZ.out, HD2.out, HL1.out.grown HG2.out (HZ3.out _ hbz), HR1.out.grown HG2.out (HZ3.out _ hbz1), HS1.out.grown HG2.out (HZ3.out _ hbs), HLA.out⟩
    | false =>
      gi_wp2
      refine ⟨trivial, (CallsIn.inRound l (callsIn_wide.2 HC.out)).mono ?_⟩
      rintro e w2 ⟨rfl, hg2, hd2⟩
      have hr2 := HR1.out.grown hg2 (HZ3.out _ hbz1)
      have HG2 := Lib.hid hg2; have HD2 := Lib.hid hd2
      have r2c := hr2.cell 0; have r2f := hr2.free 0
      simp at r2c
      have HR2 := Lib.hid (hr2.set 0 (.int .i64 (q : Int)))
      have HR2b := Lib.hid hr2
      clear hg2 hd2 hr2 hr1c hr1f
      gi_wp2
      exact ⟨(keepsFrom_grown HG2.out HGZ.out).trans ((KeepsOthers.setCell _ _ _).from _), rfl, HD2.out.setFar (by omega) hbz1 HR2b.out _, by rw [HLA.out]; exact HR2.out⟩
  case hdone =>
    rintro D W ⟨hD1, hl1, hr1, hs1, hn1⟩ hD hDW
    have HR : Hid (decI x rs day = -1) := (by rw [hn1.out, HN.out, Nat.sub_self]; rfl : decI x rs day = -1)
    have r1c := hr1.cell 0; have r1f := hr1.free 0
    simp at r1c
    have HD1 := Lib.hid hD1; have HR1 := Lib.hid hr1; have HDW := Lib.hid hDW
    clear hD1 hr1 hDW hn1 hl1 hs1
    go_wp2
    have hK2 := (KeepsOthers.setCell W ⟨b2 + 1, 0, none⟩ (.int .i64 (-1))).same _ _ HDW.out rfl
    have m6 := (HR1.out.set 0 (.int .i64 (-1))).putObj (o' := .deferred none) hK2 rfl
    have x6 := m6.cell 0
    simp at x6
    refine marks_ret1 (v := .int .i64 (-1)) rfl hK2 (by simp [results, Try.results76, go_sem, x6]) ?_
    rw [HR.out]
    exact ⟨rfl, (LkD.stab (Nat.le_refl _)).putObj _ (HD1.out.setFar (by omega) hbz1 HR1.out _) (by omega) hK2 rfl⟩
  case hstop =>
    rintro D c W ⟨rfl, hD1, hr1⟩ hD hDW
    refine wp_ret ?_
    have m6 := hr1.putObj (o' := .deferred none) hDW rfl
    have x6 := m6.cell 0
    simp at x6
    refine marks_ret1 (v := .int .i64 (decI x rs day)) rfl hDW (by simp [results, Try.results76, go_sem, x6]) ?_
    exact ⟨rfl, (LkD.stab (Nat.le_refl _)).putObj _ hD1 (by omega) hDW rfl⟩
end Go.Proofs.Ytfbnllmmoaialaa
namespace Go.Proofs.Ytfbnllmmoaialaa
open Go.RowKit

/-- a day is allowed -/
def allowB (x : Alm) (rs : List DRl) (day : Int) : Bool := decide (0 ≤ decI x rs day) && (match rs[(decI x rs day).toNat]? with | some r => r.allow | none => false)
set_option maxRecDepth 100000 in
set_option maxHeartbeats 2000000 in
theorem allows_any (x : Alm) (z A f0 M : Nat) (day : Int) (A2 : Option Addr) (c2 : Nat) (rs : List DRl) (w : World) (hx : almB x = true) (d0 : 0 ≤ day) (d1 : day ≤ 1000000)
    (hs : LkS x z A f0 M w) (hd : LkD x z A M day w w) (hr : RlsAt w z A2 rs) (hv : ∀ r ∈ rs, badR x.cycles r = false) :
    Calls Try.prog 96 #[.pointer (some ⟨z, 0, none⟩), .slice A2 rs.length c2] w fun e w' => e = .returned (.bool (allowB x rs day)) ∧ LkD x z A M day w w' := by
  have HC := Lib.hid (decides_any x z A f0 M day A2 c2 rs w hx d0 d1 hs hd hr hv)
  have hb := lastTo_bd (applB x day) rs rs.length (Nat.le_refl _)
  have HB : Hid (allowB x rs day = (decide (0 ≤ decI x rs day) && (match rs[(decI x rs day).toNat]? with | some r => r.allow | none => false))) := (rfl : allowB x rs day = _)
  obtain ⟨i, hi⟩ : ∃ i, i = decI x rs day := ⟨_, rfl⟩
  have hb : -1 ≤ i ∧ i < rs.length := by rw [hi]; exact hb
  rw [← hi] at HC HB
  clear hi
  have hlz := hs.lz
  by_cases h0 : 0 ≤ i
  · obtain ⟨n, rfl⟩ := Int.eq_ofNat_of_zero_le h0
    have hn : n < rs.length := by omega
    have HT : ∀ r : DRl, r = rs[n] → Hid (allowB x rs day = r.allow) := fun r hr => (by
      rw [HB.out, Int.toNat_natCast, List.getElem?_eq_getElem hn, ← hr, decide_eq_true h0]; rfl : allowB x rs day = r.allow)
    have HR : Hid (∀ W, w.grownBy W (some z) → RlsAt W z A2 rs) := fun W h => hr.grown h hlz
    have HX : ∀ W, w.grownBy W (some z) → ∃ ab ao, A2 = some ⟨ab, ao, none⟩ ∧ W.cell? ⟨ab, ao + n * 2 + 1, none⟩ = some (.bool (rs[n]).allow) ∧ W.cell? ⟨ab, ao + n * 2, none⟩ = some (.slice (rs[n]).wa (rs[n]).when_.length (rs[n]).wc) := fun W h => by
      obtain ⟨ab, ao, e, -, hcell⟩ := (HR.out W h).sl.at_ (k := n) (fun _ => rfl) hn
      exact ⟨ab, ao, e, hcell 1 _ rfl, hcell 0 _ rfl⟩
    have HXX := Lib.hid HX
    have HTT := Lib.hid (HT _ rfl)
    obtain ⟨m, hm⟩ : ∃ m, m = rs.length := ⟨_, rfl⟩
    rw [← hm] at HC hn ⊢
    have k0 : (0 : Int) ≤ (n : Int) := by omega
    have k1 : (n : Int) < (m : Int) := by omega
    clear HX HT HR hb h0 hs hd hr hv hx hm HB
    go_enter Try.func96, Try.ntmps96
    go_wp2_with (go_at_call 76; refine HC.out.mono ?_; rintro _ W1 ⟨rfl, hd1⟩; refine Hid.out ?_)
    obtain ⟨ab, ao, rfl, q1, q0⟩ := HXX.out _ hd1.gr
    have HD1 := Lib.hid hd1
    clear hd1 HXX
    obtain ⟨v, hv⟩ : ∃ v, v = (rs[n]'(by omega)).allow := ⟨_, rfl⟩
    rw [← hv] at q1 HTT
    clear q0 hv
    refine Lib.hid ?_
    go_wp2
    go_ret
    exact ⟨ret_bool HTT.out.symm, HD1.out⟩
  · obtain rfl : i = -1 := by omega
    have HT : Hid (allowB x rs day = false) := (by rw [HB.out]; rfl : allowB x rs day = false)
    clear hb h0 hs hd hr hv hx HB
    go_enter Try.func96, Try.ntmps96
    go_wp2_with (go_at_call 76; refine HC.out.mono ?_; rintro _ W1 ⟨rfl, hd1⟩)
    go_ret
    exact ⟨ret_bool HT.out.symm, hd1⟩
theorem bothE_zero {x : Alm} {rs : List DRl} (h : bothE x rs = 0) : almB x = true ∧ rs.length ≤ 30 ∧ ∀ r ∈ rs, badR x.cycles r = false := by
  unfold bothE at h
  cases hx : almB x with
  | false => rw [hx] at h; simp at h
  | true =>
    rw [hx] at h
    simp only [if_true, chkE] at h
    split at h
    · omega
    · split at h
      · omega
      · rename_i h1 h2
        refine ⟨rfl, by omega, fun r hr => ?_⟩
        have h3 : rs.any (badR x.cycles) = false := by simpa using h2
        have := List.any_eq_false.1 h3 r hr
        simpa using this
theorem bothE_cases (x : Alm) (rs : List DRl) : bothE x rs = 0 ∨ bothE x rs = 2 ∨ bothE x rs = 4 ∨ bothE x rs = 5 := by
  unfold bothE chkE
  split
  · split
    · simp
    · split <;> simp
  · simp
theorem both_val {x : Alm} {A2 : Option Addr} {c2 : Nat} {rs : List DRl} {v : Int} (h : bothE x rs = v) (w : World) (hl : x.cycles.length ≤ 1000000) (hc : Sl Cyc.cells 2 w w.heap.size x.a x.cycles) (hr : RlsAt w w.heap.size A2 rs) :
    Calls Try.prog 59 #[.agg x.cells.toArray, .slice A2 rs.length c2] w fun e w' => e = .returned (.int .i64 v) ∧ Below w.heap.size w w' := h ▸ both_any x A2 c2 rs w hl hc hr
/-- whether a day is allowed, and which rule decides, or the error -/
def allowedR (x : Alm) (rs : List DRl) (day : Int) : Bool × Int × Int := if bothE x rs = 0 then (if inB day 0 1000000 then (allowB x rs day, decI x rs day, 0) else (false, 0, 3)) else (false, 0, bothE x rs)
set_option maxRecDepth 100000 in
set_option maxHeartbeats 4000000 in
theorem allowedF_any (x : Alm) (A2 : Option Addr) (c2 : Nat) (rs : List DRl) (day : Int) (w : World) (hl : x.cycles.length ≤ 1000000) (hc : Sl Cyc.cells 2 w w.heap.size x.a x.cycles) (hr : RlsAt w w.heap.size A2 rs) :
    Calls Try.prog 37 #[.agg x.cells.toArray, .slice A2 rs.length c2, .int .i64 day] w fun e w' => e = .returned (.tuple #[.bool (allowedR x rs day).1, .int .i64 (allowedR x rs day).2.1, .int .i64 (allowedR x rs day).2.2]) ∧ Below w.heap.size w w' := by
  obtain ⟨v, hv⟩ : ∃ v, v = bothE x rs := ⟨_, rfl⟩
  have HBO := Lib.hid (fun W (hW : Below w.heap.size w W) => both_val (A2 := A2) (c2 := c2) hv.symm W hl ((hc.below hW).more hW.size) ((hr.below hW).more hW.size))
  by_cases h0 : v = 0
  · subst h0
    obtain ⟨hx, h30, hbad⟩ := bothE_zero hv.symm
    cases hd : inB day 0 1000000 with
    | false =>
      have HD := Lib.hid (fun W => isDay_val hd W)
      have HT : Hid (allowedR x rs day = (false, 0, 3)) := (by unfold allowedR; rw [← hv, if_pos rfl, hd]; rfl : allowedR x rs day = _)
      clear hv hd hc hr hx hbad
      obtain ⟨A, c, l, ⟨e, b, u⟩, ⟨d, p, f, m, y, s, k⟩⟩ := x
      simp only [Alm.cells] at *
      go_enter Try.func37, Try.ntmps37
      go_wp2_with (first | (go_at_call 59; refine (HBO.out _ (by (repeat (first | exact Below.refl _ _ | assumption | (refine Below.alloc ?_ (by first | omega | (simp; omega) | (simp; done)) _) | (refine Below.setCell ?_ (by first | omega | (simp; omega) | (simp; done)) _) | (refine Below.drew ?_) | (refine belowN ?_ _) | (refine Below.trans ?_ (Below.mono ‹Below _ _ _› (by first | omega | (simp; omega) | (simp; done)))))))).mono ?_; rintro _ W1 ⟨rfl, hb1⟩; have hw1 : Below w.heap.size w W1 := bl2 (by (repeat (first | exact Below.refl _ _ | assumption | (refine Below.alloc ?_ (by first | omega | (simp; omega) | (simp; done)) _) | (refine Below.setCell ?_ (by first | omega | (simp; omega) | (simp; done)) _) | (refine Below.drew ?_) | (refine belowN ?_ _) | (refine Below.trans ?_ (Below.mono ‹Below _ _ _› (by first | omega | (simp; omega) | (simp; done))))))) hb1) | (go_at_call 68; refine (HD.out _).mono ?_; rintro _ _ ⟨rfl, rfl⟩))
      refine bodyPost_ret (v := .tuple #[.bool false, .int .i64 0, .int .i64 3]) (by simp [results, Try.results37, go_sem]) rfl ?_
      rw [HT.out]
      exact ⟨rfl, hw1⟩
    | true =>
      have HD := Lib.hid (fun W => isDay_val hd W)
      obtain ⟨d0, d1⟩ := inB_iff.1 hd
      have HT0 : Hid (allowedR x rs day = (allowB x rs day, decI x rs day, 0)) := (by unfold allowedR; rw [← hv, if_pos rfl, hd]; rfl : allowedR x rs day = _)
      have HN := Lib.hid (fun W (hW : Below w.heap.size w W) => newLook_any x W ((hc.below hW).more hW.size))
      have HAT := Lib.hid (fun z A M d0 sv mv W (g : Blk W z (lkv A d0 sv mv M) 150) => lkAt_any x z A M d0 day sv mv W g)
      have HDE := Lib.hid (fun z A f0 M W (hs : LkS x z A f0 M W) (hd : LkD x z A M day W W) (hr : RlsAt W z A2 rs) => decides_any x z A f0 M day A2 c2 rs W hx d0 d1 hs hd hr hbad)
      have HR := Lib.hid hr
      have hb := lastTo_bd (applB x day) rs rs.length (Nat.le_refl _)
      have HB : Hid (allowB x rs day = (decide (0 ≤ decI x rs day) && (match rs[(decI x rs day).toNat]? with | some r => r.allow | none => false))) := (rfl : allowB x rs day = _)
      obtain ⟨i, hi⟩ : ∃ i, i = decI x rs day := ⟨_, rfl⟩
      have hb : -1 ≤ i ∧ i < rs.length := by rw [hi]; exact hb
      rw [← hi] at HDE HB HT0
      obtain ⟨n, hn⟩ : ∃ n, n = rs.length := ⟨_, rfl⟩
      have HNN := Lib.hid hn
      rw [← hn] at HBO HDE hb ⊢
      clear hi hv hd hc hr hx hbad hn
      obtain ⟨A, c, l, ⟨e, b, u⟩, ⟨d, p, f, m, y, s, k⟩⟩ := x
      simp only [Alm.cells] at HBO HN ⊢
      go_enter Try.func37, Try.ntmps37
      go_upto_region 6 with (first | (go_at_call 59; refine (HBO.out _ (by (repeat (first | exact Below.refl _ _ | assumption | (refine Below.alloc ?_ (by first | omega | (simp; omega) | (simp; done)) _) | (refine Below.setCell ?_ (by first | omega | (simp; omega) | (simp; done)) _) | (refine Below.drew ?_) | (refine belowN ?_ _) | (refine Below.trans ?_ (Below.mono ‹Below _ _ _› (by first | omega | (simp; omega) | (simp; done)))))))).mono ?_; rintro _ W1 ⟨rfl, hb1⟩; have hw1 : Below w.heap.size w W1 := bl2 (by (repeat (first | exact Below.refl _ _ | assumption | (refine Below.alloc ?_ (by first | omega | (simp; omega) | (simp; done)) _) | (refine Below.setCell ?_ (by first | omega | (simp; omega) | (simp; done)) _) | (refine Below.drew ?_) | (refine belowN ?_ _) | (refine Below.trans ?_ (Below.mono ‹Below _ _ _› (by first | omega | (simp; omega) | (simp; done))))))) hb1) | (go_at_call 68; refine (HD.out _).mono ?_; rintro _ _ ⟨rfl, rfl⟩))
      obtain ⟨b3, hb3⟩ : ∃ n, n = w.heap.size := ⟨_, rfl⟩
      have ga : Blk W1 b3 #[.slice A l.length c, .int .i64 e, .int .i64 b, .int .i64 u, .int .i64 d, .int .i64 p, .int .i64 f, .int .i64 m, .int .i64 y, .int .i64 s, .int .i64 k] 28 := (Blk.at_ hb3).below hb1 (by simp; omega)
      rw [← hb3]
      clear hb3
      (have z0 := ga.cell 0; have z1 := ga.cell 1; have z2 := ga.cell 2; have z3 := ga.cell 3; have z4 := ga.cell 4; have z5 := ga.cell 5; have z6 := ga.cell 6; have z7 := ga.cell 7; have z8 := ga.cell 8; have z9 := ga.cell 9; have z10 := ga.cell 10; simp at z0 z1 z2 z3 z4 z5 z6 z7 z8 z9 z10)
      clear hb1
      go_upto_region 7 with (first | (go_at_call 74; refine (HN.out _ hw1).mono ?_; rintro _ W2 ⟨rfl, hs2, hz2, hb2, -⟩; have hw2 := bl2 hw1 hb2; refine Hid.out ?_; obtain ⟨zz, hzz⟩ : ∃ zz, zz = W1.heap.size + 3 := ⟨_, rfl⟩; rw [← hzz] at hs2 hz2 ⊢; have hwz : w.heap.size ≤ zz := (by have := hw1.size; omega); have hWz : W1.heap.size ≤ zz := (by omega); clear hzz; refine Lib.hid ?_) | (go_at_call 75; refine (HAT.out _ _ _ _ _ _ _ hz2).mono ?_; rintro _ W3 ⟨rfl, hd3⟩) | (go_at_call 76; refine (HDE.out _ _ _ _ _ (hs2.grown hd3.gr) hd3.self (((HR.out.below hw2).more hwz).grown hd3.gr hs2.lz)).mono ?_; rintro _ W4 ⟨rfl, hd4⟩))
      have hg4 := grown_same hd3.gr hd4.gr
      have HWB : Hid (Below w.heap.size w W4) := below_trans_grown hw2 hg4 hwz
      have HR4 : Hid (RlsAt W4 w.heap.size A2 rs) := ⟨HR.out.len, (HR.out.below HWB.out).sl, (HR.out.below HWB.out).rul⟩
      clear hg4 hd4 hd3 hz2 hs2 HN HAT HDE HBO hw2 hb2 hw1 ga z0 z1 z2 z3 z4 z5 z6 z7 z8 z9 z10 HR
      by_cases h0 : 0 ≤ i
      · obtain ⟨q, rfl⟩ := Int.eq_ofNat_of_zero_le h0
        have hq : q < rs.length := by have := HNN.out; omega
        have HTT : Hid (allowedR ⟨A, c, l, ⟨e, b, u⟩, ⟨d, p, f, m, y, s, k⟩⟩ rs day = ((rs[q]).allow, (q : Int), 0)) := (by
          rw [HT0.out, HB.out, Int.toNat_natCast, List.getElem?_eq_getElem hq, decide_eq_true h0]; rfl : allowedR _ rs day = _)
        obtain ⟨ab, ao, rfl, -, hcell⟩ := HR4.out.sl.at_ (k := q) (fun _ => rfl) hq
        have q1 : W4.cell? ⟨ab, ao + q * 2 + 1, none⟩ = some (.bool (rs[q]).allow) := hcell 1 _ rfl
        obtain ⟨v, hv⟩ : ∃ v, v = (rs[q]).allow := ⟨_, rfl⟩
        rw [← hv] at q1 HTT
        have HT := HTT
        have k0 : (0 : Int) ≤ (q : Int) := by omega
        have k1 : (q : Int) < (n : Int) := by omega
        clear hcell hv HT0 HB HTT
        go_wp2
        refine bodyPost_ret (v := .tuple #[.bool v, .int .i64 q, .int .i64 0]) (by simp [results, Try.results37, go_sem]) rfl ?_
        rw [HT.out]
        exact ⟨rfl, HWB.out⟩
      · obtain rfl : i = -1 := by omega
        have HT : Hid (allowedR ⟨A, c, l, ⟨e, b, u⟩, ⟨d, p, f, m, y, s, k⟩⟩ rs day = (false, -1, 0)) := (by rw [HT0.out, HB.out]; rfl : allowedR _ rs day = _)
        clear HT0 HB
        go_wp2
        refine bodyPost_ret (v := .tuple #[.bool false, .int .i64 (-1), .int .i64 0]) (by simp [results, Try.results37, go_sem]) rfl ?_
        rw [HT.out]
        exact ⟨rfl, HWB.out⟩
  · have hne : (v != 0) = true := by simpa using h0
    have HT : Hid (allowedR x rs day = (false, 0, v)) := (by unfold allowedR; rw [← hv, if_neg h0] : allowedR x rs day = _)
    clear hv hc hr
    obtain ⟨A, c, l, ⟨e, b, u⟩, ⟨d, p, f, m, y, s, k⟩⟩ := x
    simp only [Alm.cells] at *
    go_enter Try.func37, Try.ntmps37
    go_wp2_with (go_at_call 59; refine (HBO.out _ (by (repeat (first | exact Below.refl _ _ | assumption | (refine Below.alloc ?_ (by first | omega | (simp; omega) | (simp; done)) _) | (refine Below.setCell ?_ (by first | omega | (simp; omega) | (simp; done)) _) | (refine Below.drew ?_) | (refine belowN ?_ _) | (refine Below.trans ?_ (Below.mono ‹Below _ _ _› (by first | omega | (simp; omega) | (simp; done)))))))).mono ?_; rintro _ W1 ⟨rfl, hb1⟩; have hw1 : Below w.heap.size w W1 := bl2 (by (repeat (first | exact Below.refl _ _ | assumption | (refine Below.alloc ?_ (by first | omega | (simp; omega) | (simp; done)) _) | (refine Below.setCell ?_ (by first | omega | (simp; omega) | (simp; done)) _) | (refine Below.drew ?_) | (refine belowN ?_ _) | (refine Below.trans ?_ (Below.mono ‹Below _ _ _› (by first | omega | (simp; omega) | (simp; done))))))) hb1)
    refine bodyPost_ret (v := .tuple #[.bool false, .int .i64 0, .int .i64 v]) (by simp [results, Try.results37, go_sem]) rfl ?_
    rw [HT.out]
    exact ⟨rfl, hw1⟩
end Go.Proofs.Ytfbnllmmoaialaa

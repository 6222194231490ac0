/- almanac: Count. -/
import Derived.Test.YtfbnllmmoaialaaGreatZ15Ax
namespace Go.Proofs.YtfbnllmmoaialaaGreat
open Go.RowKit
attribute [local go_sem] Oper.semAt_some

def countR (x : Alm) (rs : List DRl) (fr to_ : Int) : Int × Int := if bothE x rs = 0 then (if spanB fr to_ then ((spanL x rs fr to_).length, 0) else (0, 3)) else (0, bothE x rs)
theorem daysL_len (x : Alm) (ps : List DPs) (fr to_ : Int) : (daysL x ps fr to_).length ≤ (to_ + 1 - fr).toNat := by
  unfold daysL daysN
  refine Nat.le_trans (List.length_filter_le _ _) ?_
  simp
theorem round10 (T : Array Value) (p : Tmp) (x : Value) : roundAct T #[p] [] #[x] = { tmps := T.setIfInBounds p x, defers := [] } := by simp [roundAct]
set_option maxRecDepth 100000 in
set_option maxHeartbeats 4000000 in
theorem countF_any (x : Alm) (A2 : Option Addr) (c2 : Nat) (rs : List DRl) (fr to_ : Int) (w : World) (hl : x.cycles.length ≤ 1000000) (hc : Sl Cyc.cells 2 w w.heap.size x.a x.cycles) (hr : RlsAt w w.heap.size A2 rs) :
    Calls Tryz.prog 10 #[.agg x.cells.toArray, .slice A2 rs.length c2, .int .i64 fr, .int .i64 to_] w fun e w' => e = .returned (.tuple #[.int .i64 (countR x rs fr to_).1, .int .i64 (countR x rs fr to_).2]) ∧ Below w.heap.size w w' := by
  obtain ⟨v, hv⟩ : ∃ v, v = bothE x rs := ⟨_, rfl⟩
  have HBO := Lib.hid (fun W (hW : Below w.heap.size w W) => both_val (A2 := A2) (c2 := c2) hv.symm W hl ((hc.below hW).more hW.size) ((hr.below hW).more hW.size))
  by_cases h0 : v = 0
  · subst h0
    obtain ⟨hx, h30, hbad⟩ := bothE_zero hv.symm
    cases hd : spanB fr to_ with
    | false =>
      have HSP := Lib.hid (fun W => isSpan_val hd W)
      have HT : Hid (countR x rs fr to_ = (0, 3)) := (by unfold countR; rw [← hv, if_pos rfl, hd]; rfl : countR x rs fr to_ = _)
      clear hv hd hc hr hx hbad
      obtain ⟨A, c, l, ⟨e, b, u⟩, ⟨d, p, f, m, y, s, k⟩⟩ := x
      simp only [Alm.cells] at *
      go_enter Tryz.func10, Tryz.ntmps10
      go_wp2_with (first | (go_at_call 23; refine (HBO.out _ (by (repeat (first | exact Below.refl _ _ | assumption | (refine Below.alloc ?_ (by first | omega | (simp; omega) | (simp; done)) _) | (refine Below.setCell ?_ (by first | omega | (simp; omega) | (simp; done)) _) | (refine Below.drew ?_) | (refine belowN ?_ _) | (refine Below.trans ?_ (Below.mono ‹Below _ _ _› (by first | omega | (simp; omega) | (simp; done)))))))).mono ?_; rintro _ W1 ⟨rfl, hb1⟩; have hw1 : Below w.heap.size w W1 := bl2 (by (repeat (first | exact Below.refl _ _ | assumption | (refine Below.alloc ?_ (by first | omega | (simp; omega) | (simp; done)) _) | (refine Below.setCell ?_ (by first | omega | (simp; omega) | (simp; done)) _) | (refine Below.drew ?_) | (refine belowN ?_ _) | (refine Below.trans ?_ (Below.mono ‹Below _ _ _› (by first | omega | (simp; omega) | (simp; done))))))) hb1; have gn : Blk W1 (w.heap.size + 1) #[.int .i64 0] 3 := (Blk.at_ (by simp)).below hb1 (by first | omega | (simp; omega) | (simp; done)); have n0 := gn.cell 0; have n1 := gn.free 0; simp at n0) | (go_at_call 24; refine (HSP.out _).mono ?_; rintro _ W2 ⟨rfl, hb2⟩; have hw2 := bl2 hw1 hb2; have gn2 := gn.below hb2 gn.lt; have m0 := gn2.cell 0; have m1 := gn2.free 0; simp at m0))
      have x2 := (gn2.set 0 (.int .i64 0)).cell 0
      simp at x2
      refine bodyPost_ret (v := .tuple #[.int .i64 0, .int .i64 3]) (by simp [results, Tryz.results10, go_sem, x2]) rfl ?_
      rw [HT.out]
      exact ⟨rfl, hw2.setCell (by first | omega | (simp; omega) | (simp; done)) _⟩
    | true =>
      have HSP := Lib.hid (fun W => isSpan_val hd W)
      obtain ⟨⟨q1, q2⟩, ⟨q3, q4⟩, q5, q6⟩ := spanB_iff.1 hd
      have HT : Hid (countR x rs fr to_ = (((spanL x rs fr to_).length : Int), 0)) := (by unfold countR; rw [← hv, if_pos rfl, hd]; rfl : countR x rs fr to_ = _)
      have hlen := daysL_len x [⟨none, 0, rs⟩] fr to_
      have HDY := Lib.hid (fun Ap W => days_any x Ap 1 1 fr to_ W)
      have HIT := Lib.hid (fun P s bs B (hP : ∀ b, P b → b < B) => days1_iter P x [⟨A2, c2, rs⟩] fr to_ s (s + 2) (s + 3) (s + 1) (some ⟨bs, 0, none⟩) 1 B hx q1 q4 (by omega) (fun p hp r hr => by simp only [List.mem_singleton] at hp; subst hp; exact hbad r hr) hP)
      have HR := Lib.hid hr; have HC := Lib.hid hc
      obtain ⟨n, hn⟩ : ∃ n, n = rs.length := ⟨_, rfl⟩
      have HNN := Lib.hid hn
      rw [← hn] at HBO ⊢
      obtain ⟨A, c, l, ⟨e, b, u⟩, ⟨d, p, f, m, y, s, k⟩⟩ := x
      obtain ⟨X, hX⟩ : ∃ X, X = (⟨A, c, l, ⟨e, b, u⟩, ⟨d, p, f, m, y, s, k⟩⟩ : Alm) := ⟨_, rfl⟩
      rw [← hX] at HT HIT HDY HC
      have HXX := Lib.hid hX
      have hXc : X.cells.toArray = #[.slice A l.length c, .int .i64 e, .int .i64 b, .int .i64 u, .int .i64 d, .int .i64 p, .int .i64 f, .int .i64 m, .int .i64 y, .int .i64 s, .int .i64 k] := by rw [hX]; rfl
      rw [hXc] at HDY
      have HXC := Lib.hid hXc
      obtain ⟨L, hL⟩ : ∃ L, L = spanL X rs fr to_ := ⟨_, rfl⟩
      have HLL := Lib.hid hL
      have hlenL : L.length ≤ 4001 := by rw [hL, hX]; exact Nat.le_trans hlen (by omega)
      rw [← hX, hXc]
      rw [← hL] at HT
      clear hv hd hc hr hx hbad hn hX hL hXc hlen
      simp only [Alm.cells] at HBO
      refine calls_marks Tryz.func10 rfl ?_
      simp only [Tryz.ntmps10, List.size_toArray, List.length_cons, List.length_nil, Nat.reduceAdd, Nat.reduceSub, Array.replicate_succ, Array.replicate_zero, List.push_toArray, List.append_toArray, List.nil_append, List.cons_append]
      go_upto_region 6 with (first | (go_at_call 23; refine (HBO.out _ (by (repeat (first | exact Below.refl _ _ | assumption | (refine Below.alloc ?_ (by first | omega | (simp; omega) | (simp; done)) _) | (refine Below.setCell ?_ (by first | omega | (simp; omega) | (simp; done)) _) | (refine Below.drew ?_) | (refine belowN ?_ _) | (refine Below.trans ?_ (Below.mono ‹Below _ _ _› (by first | omega | (simp; omega) | (simp; done)))))))).mono ?_; rintro _ W1 ⟨rfl, hb1⟩; have hw1 : Below w.heap.size w W1 := bl2 (by (repeat (first | exact Below.refl _ _ | assumption | (refine Below.alloc ?_ (by first | omega | (simp; omega) | (simp; done)) _) | (refine Below.setCell ?_ (by first | omega | (simp; omega) | (simp; done)) _) | (refine Below.drew ?_) | (refine belowN ?_ _) | (refine Below.trans ?_ (Below.mono ‹Below _ _ _› (by first | omega | (simp; omega) | (simp; done))))))) hb1; have gn : Blk W1 (w.heap.size + 1) #[.int .i64 0] 3 := (Blk.at_ (by simp)).below hb1 (by first | omega | (simp; omega) | (simp; done)); have n0 := gn.cell 0; have n1 := gn.free 0; simp at n0) | (go_at_call 24; refine (HSP.out _).mono ?_; rintro _ W2 ⟨rfl, hb2⟩; have hw2 := bl2 hw1 hb2; have gn2 := gn.below hb2 gn.lt; have m0 := gn2.cell 0; have m1 := gn2.free 0; simp at m0))
      obtain ⟨b3, hb3⟩ : ∃ n, n = w.heap.size := ⟨_, rfl⟩
      have ga : Blk W2 b3 #[.slice A l.length c, .int .i64 e, .int .i64 b, .int .i64 u, .int .i64 d, .int .i64 p, .int .i64 f, .int .i64 m, .int .i64 y, .int .i64 s, .int .i64 k] 28 := (((Blk.at_ hb3).alloc _).below hb1 (by simp; omega)).below hb2 (by have := hb1.size; simp at this; omega)
      rw [← hb3] at gn2 ⊢
      have hbw : w.heap.size ≤ b3 := by omega
      have hbw2 : b3 ≤ w.heap.size := by omega
      have hn2 := gn2.lt
      clear hb3
      (have z0 := ga.cell 0; have z1 := ga.cell 1; have z2 := ga.cell 2; have z3 := ga.cell 3; have z4 := ga.cell 4; have z5 := ga.cell 5; have z6 := ga.cell 6; have z7 := ga.cell 7; have z8 := ga.cell 8; have z9 := ga.cell 9; have z10 := ga.cell 10; simp at z0 z1 z2 z3 z4 z5 z6 z7 z8 z9 z10)
      clear hb1 hb2 hw1 gn n0 n1 m0 m1
      go_wp2_with fail
      obtain ⟨bs, hbs⟩ : ∃ n, n = W2.heap.size := ⟨_, rfl⟩
      have gs : Blk (W2.alloc (.cells #[.slice A2 n c2] 29)) bs #[.slice A2 n c2] 29 := Blk.at_ hbs
      have hw4 : Below w.heap.size w (W2.alloc (.cells #[.slice A2 n c2] 29)) := bla hw2
      have gn2 := gn2.alloc (.cells #[.slice A2 n c2] 29)
      have hbsn : b3 + 1 < bs := by omega
      rw [← hbs]
      clear hbs ga z0 z1 z2 z3 z4 z5 z6 z7 z8 z9 z10 hn2
      generalize W2.alloc (.cells #[.slice A2 n c2] 29) = W4 at gs hw4 gn2 ⊢
      clear hw2
      refine (HDY.out _ _).mono ?_
      rintro _ W3 ⟨rfl, g0, g1, g2, g3, hb3, hsz3⟩
      have gs := gs.below hb3 gs.lt
      have gn := gn2.below hb3 gn2.lt
      have hw3 := bl2 hw4 hb3
      have hbs4 : bs < W4.heap.size := (by assumption : Blk W4 bs _ _).lt
      obtain ⟨sz, hsz⟩ : ∃ n, n = W4.heap.size := ⟨_, rfl⟩
      rw [← hsz] at g0 g1 g2 g3 hsz3 hbs4 ⊢
      have HSZ3 := Lib.hid hsz3
      have hsz4 : sz + 3 < W3.heap.size := by omega
      clear hsz hb3 hw4 HDY HBO HSP gn2 hsz3
      obtain ⟨P, hPd⟩ : ∃ P : Nat → Prop, ∀ b, P b ↔ (b < w.heap.size ∨ (b3 + 1 < b ∧ b < W3.heap.size)) := ⟨_, fun _ => Iff.rfl⟩
      have hPl : ∀ b, P b → b < W3.heap.size := fun b hb => by have := (hPd b).1 hb; omega
      have hPn : ¬ P (b3 + 1) := fun h => by have := (hPd _).1 h; omega
      have hD : DaysAt P X [⟨A2, c2, rs⟩] fr to_ sz (sz + 2) (sz + 3) (sz + 1) (some ⟨bs, 0, none⟩) 1 W3 :=
        ⟨(hPd _).2 (by omega), (hPd _).2 (by omega), (hPd _).2 (by omega), (hPd _).2 (by omega), by rw [HXC.out]; exact g0, g2, g3, g1, ((HC.out.below hw3)).slp (fun b hb => (hPd b).2 (.inl hb)), PsP.one (HR.out.below hw3) (fun b hb => (hPd b).2 (.inl hb)) (by rw [← HNN.out]; exact gs) ((hPd _).2 (by omega))⟩
      have HD := Lib.hid hD; have HGN := Lib.hid gn; have HW3 := Lib.hid hw3; have HPL := Lib.hid hPl; have HPN := Lib.hid hPn; have HPD := Lib.hid hPd
      have hnW : b3 + 1 < W3.heap.size := gn.lt
      have hit := HIT.out P sz bs W3.heap.size hPl
      rw [spanL_eq, ← HLL.out] at hit
      have HIT2 := Lib.hid hit
      clear hit hD g0 g1 g2 g3 gs gn hw3 hPd hPl hPn HIT hbs4
      go_wp2_with fail
      refine wp_rangeSZ (lb := #[.pointer (some ⟨sz, 0, none⟩), .pointer (some ⟨sz + 2, 0, none⟩), .pointer (some ⟨sz + 3, 0, none⟩), .pointer (some ⟨sz + 1, 0, none⟩)]) rfl ent_days1 HIT2.out []
        (fun z k W => Below w.heap.size w W ∧ Blk W (b3 + 1) #[.int .i64 (k : Int)] 3)
        (fun c W => False)
        (fun z k hz => (StabZ.low (by omega) _ (Nat.le_refl _)).and (StabZ.blk _ (by omega) _ _ _))
        (fun c => Stab.pure _)
        (fun z W b o' hz h1 h2 hd => hd.putObj _ (by omega) (fun b' hb' => by have := HPL.out b' hb'; omega)) ?hE ?hD0 ?h0 ?hps ?hassign ?hbody ?hdone (fun D c W h => h.elim)
      case hE => exact fun k xs => Stab.ex fun d => (Stab.pure _).and (Stab.pure _)
      case hD0 => exact fun W hb => ⟨hb.size, HD.out.keep (fun b hp hl => hb.block b hl) HPL.out⟩
      case h0 => exact fun z W hz hzW hb => ⟨HW3.out.trans (hb.mono (by omega)), HGN.out.below hb hnW⟩
      case hps => rintro k W xs ⟨d, _, rfl⟩; rfl
      case hassign =>
        rintro l k xs W K ⟨d, _, rfl⟩ hK
        rw [round10] at hK
        rw [fold1]
        gi_wp2
        exact hK
      case hbody =>
        rintro l z k xs W hz hk ⟨hb, gn⟩ hDD ⟨d, hd, rfl⟩ hl2 hl3
        rw [round10]
        simp only [List.setIfInBounds_toArray, List.set_cons_succ, List.set_cons_zero]
        have c2 := gn.cell 0; have f2 := gn.free 0
        simp at c2
        have v1 : IntKind.i64.wrap ((k : Int) + 1) = (k : Int) + 1 := IntWalk.i64_in _ ⟨by omega, by omega⟩
        have HB := Lib.hid hb; have HDD := Lib.hid hDD
        have m2 := Lib.hid (gn.set 0 (.int .i64 ((k : Int) + 1)))
        clear hb gn hDD hd
        gi_wp2
        refine ⟨(KeepsOthers.setCell _ _ _).from _, ⟨HB.out.setCell (by show w.heap.size ≤ b3 + 1; omega) _, m2.out⟩, HDD.out.keep fun b hb hl => Below.heap_setCell _ _ _ _ ?_⟩
        rintro rfl
        rcases hb with hb | hb
        · exact HPN.out hb
        · have : z - 3 ≤ b3 + 1 := hb.1
          omega
      case hdone =>
        rintro z D W hz ⟨hb, gn⟩ hD hDW
        have c2 := gn.cell 0; have f2 := gn.free 0
        simp at c2
        have HB := Lib.hid hb; have HGN := Lib.hid gn; have HDW := Lib.hid hDW
        obtain ⟨Ln, hLn⟩ : ∃ n, n = L.length := ⟨_, rfl⟩
        rw [← hLn] at c2 HGN HT
        clear hb gn hDW hLn
        go_wp2
        have hK2 := (KeepsOthers.setCell W ⟨b3 + 1, 0, none⟩ (.int .i64 (Ln : Int))).same _ _ HDW.out rfl
        have m2 := (HGN.out.set 0 (.int .i64 (Ln : Int))).putObj (o' := .deferred none) hK2 rfl
        have x2 := m2.cell 0
        simp at x2
        refine marks_ret1 (v := .tuple #[.int .i64 (Ln : Int), .int .i64 0]) rfl hK2 (by simp [results, Tryz.results10, go_sem, x2]) ?_
        rw [HT.out]
        exact ⟨rfl, below_putObj (HB.out.setCell (by show w.heap.size ≤ b3 + 1; omega) _) (by omega) hK2 _⟩
  · have hne : (v != 0) = true := by simpa using h0
    have HT : Hid (countR x rs fr to_ = (0, v)) := (by unfold countR; rw [← hv, if_neg h0] : countR x rs fr to_ = _)
    clear hv hc hr
    obtain ⟨A, c, l, ⟨e, b, u⟩, ⟨d, p, f, m, y, s, k⟩⟩ := x
    simp only [Alm.cells] at *
    go_enter Tryz.func10, Tryz.ntmps10
    go_wp2_with (go_at_call 23; refine (HBO.out _ (by (repeat (first | exact Below.refl _ _ | assumption | (refine Below.alloc ?_ (by first | omega | (simp; omega) | (simp; done)) _) | (refine Below.setCell ?_ (by first | omega | (simp; omega) | (simp; done)) _) | (refine Below.drew ?_) | (refine belowN ?_ _) | (refine Below.trans ?_ (Below.mono ‹Below _ _ _› (by first | omega | (simp; omega) | (simp; done)))))))).mono ?_; rintro _ W1 ⟨rfl, hb1⟩; have hw1 : Below w.heap.size w W1 := bl2 (by (repeat (first | exact Below.refl _ _ | assumption | (refine Below.alloc ?_ (by first | omega | (simp; omega) | (simp; done)) _) | (refine Below.setCell ?_ (by first | omega | (simp; omega) | (simp; done)) _) | (refine Below.drew ?_) | (refine belowN ?_ _) | (refine Below.trans ?_ (Below.mono ‹Below _ _ _› (by first | omega | (simp; omega) | (simp; done))))))) hb1; have gn : Blk W1 (w.heap.size + 1) #[.int .i64 0] 3 := (Blk.at_ (by simp)).below hb1 (by first | omega | (simp; omega) | (simp; done)); have n0 := gn.cell 0; have n1 := gn.free 0; simp at n0)
    have x2 := (gn.set 0 (.int .i64 0)).cell 0
    simp at x2
    refine bodyPost_ret (v := .tuple #[.int .i64 0, .int .i64 v]) (by simp [results, Tryz.results10, go_sem, x2]) rfl ?_
    rw [HT.out]
    exact ⟨rfl, hw1.setCell (by first | omega | (simp; omega) | (simp; done)) _⟩
end Go.Proofs.YtfbnllmmoaialaaGreat
namespace Go.Proofs.YtfbnllmmoaialaaGreat
open Go.RowKit
attribute [local go_sem] Oper.semAt_some

theorem ownsRow_low {w : World} {b b' : Nat} {e : TypeId} {size : Nat} {v : Value} {n : Nat} {xs : List Value} (h : w.ownsRow b e size v n xs) (hb : b' ≤ b) : w.ownsRow b' e size v n xs :=
  ⟨h.1, h.2.imp id fun ⟨g, cap, cur, h1, h2, h3⟩ => ⟨g, cap, cur, h1, Nat.le_trans hb h2, h3⟩⟩
theorem own_slice {w : World} {b : Nat} {e : TypeId} {size : Nat} {v : Value} {n : Nat} {xs : List Value} (h : w.ownsRow b e size v n xs) : ∃ A c, v = .slice A n c := by
  rcases h.2 with ⟨h1, h2⟩ | ⟨g, cap, cur, h1, _⟩
  · exact ⟨none, 0, by rw [h1, h2]⟩
  · exact ⟨_, _, h1⟩
theorem keepsFrom_own {B : Nat} {W W' : World} {b : Nat} {e : TypeId} {size : Nat} {v : Value} {n : Nat} {xs : List Value} (h : W.ownsRow b e size v n xs) (hg : W.grownBy W' v.ownBlock) : KeepsFrom B W W' :=
  ⟨hg.size, fun j o _ hj ho => (hg.block j (Array.getElem?_eq_some_iff.1 hj).1 (fun ee => by
    rcases h.2 with ⟨h1, _⟩ | ⟨g, cap, cur, h1, _, h4, _⟩
    · rw [h1] at ee; cases ee
    · rw [h1] at ee
      have e3 : j = g := by simpa [Value.ownBlock] using ee
      subst e3; rw [h4] at hj; cases hj; cases ho)).trans hj⟩
theorem ownsRow_set {w : World} {b : Nat} {e : TypeId} {size : Nat} {v : Value} {n : Nat} {xs : List Value} (h : w.ownsRow b e size v n xs) {p : Addr} (hp : p.block < b) (u : Value) : (w.setCell p u).ownsRow b e size v n xs :=
  h.kept (row := some p.block) ⟨rfl, rfl, rfl, by simp [World.setCell], fun k _ hk => Below.heap_setCell w p u k (fun e => hk (by rw [e]))⟩ (by
    cases hv : v.ownBlock with
    | none => exact .inl rfl
    | some g => exact .inr fun e => by have := (h.lt g hv).1; have := Option.some.inj e; omega)
theorem ownsRow_put {w : World} {b : Nat} {e : TypeId} {size : Nat} {v : Value} {n : Nat} {xs : List Value} (h : w.ownsRow b e size v n xs) {D : Nat} {o : Obj} (hD : w.heap[D]? = some o) (ho : o.isCells = false) (o' : Obj) : (w.putObj D o').ownsRow b e size v n xs :=
  Stab.owns (B := 0) e size v n xs w _ (some D) h (grownBy_putObj' w D o') (fun r e => by cases e; exact ⟨Nat.zero_le _, o, hD, ho⟩)
set_option maxRecDepth 100000 in
set_option maxHeartbeats 2000000 in
theorem appSeq_any (P : Nat → Prop) (x : Alm) (ps : List DPs) (fr to_ : Int) (s : Nat) (Ap : Option Addr) (cp : Nat) (w : World) (hx : almB x = true) (h0f : 0 ≤ fr) (hto : to_ ≤ 1000000) (hle : fr ≤ to_ + 1) (hbad : ∀ p ∈ ps, ∀ r ∈ p.rules, badR x.cycles r = false)
    (hP : ∀ b, P b → b < w.heap.size) (hD : DaysAt P x ps fr to_ s (s + 2) (s + 3) (s + 1) Ap cp w) :
    Calls Tryz.prog 70 #[.slice none 0 0, dayF s] w fun e w' => ∃ v, e = .returned v ∧ w'.ownsRow w.heap.size 3 1 v (daysL x ps fr to_).length ((daysL x ps fr to_).map (Value.int .i64)) ∧ Below w.heap.size w w' := by
  obtain ⟨i0, hi, iz0, iz1, iz2⟩ := info_parts infoInt
  have hlen := daysL_len x ps fr to_
  obtain ⟨L, hL⟩ : ∃ L, L = daysL x ps fr to_ := ⟨_, rfl⟩
  have hit := days1_iter P x ps fr to_ s (s + 2) (s + 3) (s + 1) Ap cp w.heap.size hx h0f hto hle hbad hP
  rw [← hL] at hit hlen ⊢
  have hll : L.length ≤ 1000001 := by omega
  have HD := Lib.hid hD; have HP := Lib.hid hP; have HIT := Lib.hid hit
  clear hL hbad hx hD hP hit hlen
  refine calls_marks Tryz.func70 rfl ?_
  simp only [Tryz.ntmps70, List.size_toArray, List.length_cons, List.length_nil, Nat.reduceAdd, Nat.reduceSub, Array.replicate_succ, Array.replicate_zero, List.push_toArray, List.append_toArray, List.nil_append, List.cons_append]
  go_wp2
  obtain ⟨b2, hb2⟩ : ∃ b, b = w.heap.size := ⟨_, rfl⟩
  rw [← hb2]
  refine gen_w (fun W => W.heap.size = b2 + 1 ∧ Below w.heap.size w W ∧ Blk W b2 #[.slice none 0 0] 42) ⟨by simp [hb2], by (repeat (first | exact Below.refl _ _ | assumption | (refine Below.alloc ?_ (by first | omega | (simp; omega) | (simp; done)) _) | (refine Below.setCell ?_ (by first | omega | (simp; omega) | (simp; done)) _) | (refine Below.drew ?_) | (refine belowN ?_ _) | (refine Below.trans ?_ (Below.mono ‹Below _ _ _› (by first | omega | (simp; omega) | (simp; done)))))), Blk.at_ hb2⟩ ?_
  rintro V ⟨hVz, hV, g2⟩
  have hbw : w.heap.size ≤ b2 := by omega
  have hPb : ∀ b, P b → b < b2 := fun b hb => by have := HP.out b hb; omega
  have HV := Lib.hid hV; have HG2 := Lib.hid g2; have HPB := Lib.hid hPb
  have hvz : b2 < V.heap.size := by omega
  clear hb2 hVz hV g2 hPb
  refine wp_rangeSZ (lb := #[.pointer (some ⟨s, 0, none⟩), .pointer (some ⟨s + 2, 0, none⟩), .pointer (some ⟨s + 3, 0, none⟩), .pointer (some ⟨s + 1, 0, none⟩)]) rfl ent_days1 HIT.out [(5, 0)]
    (fun z k W => Below w.heap.size w W ∧ ∃ v, Blk W b2 #[v] 42 ∧ W.ownsRow (z + 2) 3 1 v k ((L.take k).map (Value.int .i64)))
    (fun c W => False)
    (fun z k hz => (StabZ.low (by omega) _ (Nat.le_refl _)).and (StabZ.ex fun v => (StabZ.blk _ (by omega) _ _ _).and (StabZ.owns _ _ _ _ _ (by omega))))
    (fun c => Stab.pure _)
    (fun z W b o' hz h1 h2 hd => hd.putObj _ (by omega) (fun b' hb' => by have := HPB.out b' hb'; omega)) ?hE ?hD0 ?h0 ?hps ?hassign ?hbody ?hdone (fun D c W h => h.elim)
  case hE => exact fun k xs => Stab.ex fun d => (Stab.pure _).and (Stab.pure _)
  case hD0 => exact fun W hb => ⟨by have := hb.size; omega, HD.out.keep (fun b hp hl => (HV.out.trans (hb.mono (by omega))).block b hl) HP.out⟩
  case h0 => exact fun z W hz hzW hb => ⟨HV.out.trans (hb.mono (by omega)), _, HG2.out.below hb (by omega), World.ownsRow_nil _ _ _ _⟩
  case hps => rintro k W xs ⟨d, _, rfl⟩; rfl
  case hassign =>
    rintro l k xs W K ⟨d, _, rfl⟩ hK
    rw [round1] at hK
    rw [fold1]
    simp only [List.setIfInBounds_toArray, List.set_cons_succ, List.set_cons_zero] at hK ⊢
    gi_wp2
    exact hK
  case hbody =>
    rintro l z k xs W hz hk ⟨hb, v, g2, hown⟩ hDD ⟨d, hd, rfl⟩ hl2 hl3
    rw [round1]
    simp only [List.setIfInBounds_toArray, List.set_cons_succ, List.set_cons_zero]
    have hzW := hDD.box.lt
    have c2 := g2.cell 0; have f2 := g2.free 0
    simp at c2
    have HTK : Hid ((L.take (k + 1)).map (Value.int .i64) = (L.take k).map (Value.int .i64) ++ [.int .i64 d]) := (by
      rw [List.take_add_one, hd]; simp : _ = _)
    have HO := Lib.hid hown; have HB := Lib.hid hb; have HDDD := Lib.hid hDD; have HG := Lib.hid g2
    have hb2W := g2.lt
    clear hb hDD hown hd g2
    gi_wp2_with (gi_at_builtin; refine wpListIn_append_own _ rfl _ _ 42 rfl (z + 2) 3 i0 (.int .i64 0) 1 8 uInts hi iz0 iz1 iz2 rfl (by decide) _ _ _ rfl (HO.out.alloc _) ⟨W.heap.size, 0, none⟩ 1 1 [.int .i64 d] rfl rfl (cell_one_new _ _ _) (by simp [Value.oneCell']) (by unfold maxLen; omega) (by omega) (by simp; omega) ?_; intro v' w1 hown1 hgrow _; refine Hid.out ?_)
    obtain ⟨A9, c9, rfl⟩ := own_slice hown1
    have hvb : ∀ g, v.ownBlock = some g → z + 2 ≤ g := fun g hg => (HO.out.lt g hg).1
    have g2 : Blk w1 b2 #[v] 42 := (HG.out.alloc _).grown hgrow (fun e => by have := hvb _ e.symm; omega)
    have c3 := g2.cell 0; have f3 := g2.free 0
    simp at c3
    have HG2' := Lib.hid (g2.set 0 (.slice A9 (k + 1) c9))
    have HO1 := Lib.hid hown1
    have HB1 : Hid (Below w.heap.size w w1) := (HB.out.alloc (by have := HB.out.size; omega) _).grown hgrow (by have := HB.out.size; simp; omega) (fun g hg => by have := hvb g hg; omega)
    have HD1 : Hid (DayD P x ps fr to_ s (s + 2) (s + 3) (s + 1) Ap cp z w1) := HDDD.out.keep (fun b hb hl => (hgrow.block b (by simp; omega) (fun e => by
      have := hvb b e.symm
      rcases hb with hb | hb
      · have := HPB.out b hb; omega
      · omega)).trans (Below.heap_alloc _ _ _ hl))
    have HKK : Hid (KeepsFrom V.heap.size W w1) := (keepsFrom_below (B := V.heap.size) ((Below.refl _ W).alloc (Nat.le_refl _) (.cells #[.int .i64 d] 3))).trans (keepsFrom_own (HO.out.alloc _) hgrow)
    clear g2 hown1 hgrow hvb c2 f2
    refine Lib.hid ?_
    gi_wp2
    refine ⟨HKK.out.trans ((KeepsOthers.setCell _ _ _).from _), ⟨HB1.out.setCell (by show w.heap.size ≤ b2; omega) _, _, HG2'.out, ?_⟩, HD1.out.keep fun b hb hl => Below.heap_setCell _ _ _ _ ?_⟩
    · rw [HTK.out]
      exact ownsRow_set HO1.out (by show b2 < z + 2; omega) _
    · intro e
      have e : b = b2 := e
      rcases hb with hb | hb
      · have := HPB.out _ hb; omega
      · omega
  case hdone =>
    rintro z D W hz ⟨hb, v, g2, hown⟩ hD hDW
    have c2 := g2.cell 0
    simp at c2
    have HB := Lib.hid hb; have HO := Lib.hid hown; have HDW := Lib.hid hDW
    clear hb g2 hDW hown
    go_wp2
    have hK2 := HDW.out
    refine marks_ret1 (v := v) rfl hK2 (by simp [results, Tryz.results70, go_sem]) ?_
    refine ⟨v, rfl, ?_, below_putObj HB.out (by omega) hK2 _⟩
    have h1 := ownsRow_low (ownsRow_put HO.out hK2 rfl (.deferred none)) (show w.heap.size ≤ z + 2 by omega)
    rw [List.take_length] at h1
    exact h1
set_option maxRecDepth 100000 in
theorem collect_any (P : Nat → Prop) (x : Alm) (ps : List DPs) (fr to_ : Int) (s : Nat) (Ap : Option Addr) (cp : Nat) (w : World) (hx : almB x = true) (h0f : 0 ≤ fr) (hto : to_ ≤ 1000000) (hle : fr ≤ to_ + 1) (hbad : ∀ p ∈ ps, ∀ r ∈ p.rules, badR x.cycles r = false)
    (hP : ∀ b, P b → b < w.heap.size) (hD : DaysAt P x ps fr to_ s (s + 2) (s + 3) (s + 1) Ap cp w) :
    Calls Tryz.prog 43 #[dayF s] w fun e w' => ∃ v, e = .returned v ∧ w'.ownsRow w.heap.size 3 1 v (daysL x ps fr to_).length ((daysL x ps fr to_).map (Value.int .i64)) ∧ Below w.heap.size w w' := by
  have H := Lib.hid (appSeq_any P x ps fr to_ s Ap cp w hx h0f hto hle hbad hP hD)
  obtain ⟨L, hL⟩ : ∃ L, L = daysL x ps fr to_ := ⟨_, rfl⟩
  rw [← hL] at H ⊢
  clear hD hP hbad hx hL
  go_enter Tryz.func43, Tryz.ntmps43
  go_wp2_with fail
  refine H.out.mono ?_
  rintro _ W1 ⟨v, rfl, ho, hb⟩
  have HO := Lib.hid ho
  clear ho
  go_wp2
  go_ret
  exact ⟨_, rfl, HO.out, hb⟩
end Go.Proofs.YtfbnllmmoaialaaGreat
namespace Go.Proofs.YtfbnllmmoaialaaGreat

/-- the most turns that there can be behind a day -/
def bestOf (g0 g1 d : Int) : List Int → List Int → Int
  | x :: l, c :: cs => max (if inB (x - d) g0 g1 then c else 0) (bestOf g0 g1 d l cs)
  | _, _ => 0
/-- how many turns there can be from each day on, at most T -/
def cnts (g0 g1 T : Int) : List Int → List Int
  | [] => []
  | d :: l => min (bestOf g0 g1 d l (cnts g0 g1 T l) + 1) T :: cnts g0 g1 T l
theorem cnts_len (g0 g1 T : Int) : ∀ l : List Int, (cnts g0 g1 T l).length = l.length
  | [] => rfl
  | d :: l => by simp [cnts, cnts_len g0 g1 T l]
theorem cnts_drop (g0 g1 T : Int) : ∀ (l : List Int) (m : Nat), (cnts g0 g1 T l).drop m = cnts g0 g1 T (l.drop m)
  | [], m => by simp [cnts]
  | d :: l, 0 => rfl
  | d :: l, m + 1 => by simp only [cnts, List.drop_succ_cons]; exact cnts_drop g0 g1 T l m
theorem bestOf_nn (g0 g1 d : Int) : ∀ l cs : List Int, 0 ≤ bestOf g0 g1 d l cs
  | [], _ => by simp [bestOf]
  | _ :: _, [] => by simp [bestOf]
  | x :: l, c :: cs => by simp only [bestOf]; have := bestOf_nn g0 g1 d l cs; omega
theorem bestOf_le (g0 g1 d T : Int) (hT : 0 ≤ T) : ∀ l cs : List Int, (∀ c ∈ cs, c ≤ T) → bestOf g0 g1 d l cs ≤ T
  | [], _, _ => by simpa [bestOf] using hT
  | _ :: _, [], _ => by simpa [bestOf] using hT
  | x :: l, c :: cs, h => by
    simp only [bestOf]
    have h1 := bestOf_le g0 g1 d T hT l cs (fun y hy => h y (by simp [hy]))
    have h2 := h c (by simp)
    split <;> omega
theorem cnts_bd (g0 g1 T : Int) (hT : 1 ≤ T) : ∀ l : List Int, ∀ c ∈ cnts g0 g1 T l, 1 ≤ c ∧ c ≤ T
  | [], c, h => by simp [cnts] at h
  | d :: l, c, h => by
    simp only [cnts, List.mem_cons] at h
    rcases h with rfl | h
    · have := bestOf_nn g0 g1 d l (cnts g0 g1 T l); omega
    · exact cnts_bd g0 g1 T hT l c h
/-- the same, of the first j days behind it -/
def bestN (g0 g1 d : Int) (l cs : List Int) (j : Nat) : Int := bestOf g0 g1 d (l.take j) (cs.take j)
theorem bestOf_snoc (g0 g1 d x c : Int) : ∀ l cs : List Int, l.length = cs.length → bestOf g0 g1 d (l ++ [x]) (cs ++ [c]) = max (bestOf g0 g1 d l cs) (if inB (x - d) g0 g1 then c else 0)
  | [], [], _ => by simp only [List.nil_append, bestOf]; split <;> omega
  | y :: l, e :: cs, h => by
    simp only [List.cons_append, bestOf]
    rw [bestOf_snoc g0 g1 d x c l cs (by simpa using h)]
    omega
  | [], _ :: _, h => by simp at h
  | _ :: _, [], h => by simp at h
theorem bestN_succ {g0 g1 d : Int} {l cs : List Int} (h : l.length = cs.length) {j : Nat} (hj : j < l.length) : bestN g0 g1 d l cs (j + 1) = max (bestN g0 g1 d l cs j) (if inB (l[j] - d) g0 g1 then cs[j]'(by omega) else 0) := by
  unfold bestN
  rw [List.take_add_one, List.take_add_one, List.getElem?_eq_getElem hj, List.getElem?_eq_getElem (show j < cs.length by omega)]
  exact bestOf_snoc g0 g1 d _ _ _ _ (by simp; omega)
theorem bestN_all {g0 g1 d : Int} {l cs : List Int} (h : l.length = cs.length) {j : Nat} (hj : l.length ≤ j) : bestN g0 g1 d l cs j = bestOf g0 g1 d l cs := by
  unfold bestN
  rw [List.take_of_length_le hj, List.take_of_length_le (by omega)]
theorem bestN_mono {g0 g1 d : Int} {l cs : List Int} (h : l.length = cs.length) {i j : Nat} (hij : i ≤ j) : bestN g0 g1 d l cs i ≤ bestN g0 g1 d l cs j := by
  induction j with
  | zero => obtain rfl : i = 0 := by omega
            omega
  | succ j ih =>
    by_cases e : i = j + 1
    · subst e; omega
    · have := ih (by omega)
      by_cases hj : j < l.length
      · rw [bestN_succ h hj]; omega
      · rw [bestN_all h (j := j + 1) (by omega), ← bestN_all h (j := j) (by omega)]; omega
/-- beyond the gap nothing is near enough -/
theorem bestN_far {g0 g1 d : Int} {l cs : List Int} (h : l.length = cs.length) (hs : l.Pairwise (· < ·)) {j : Nat} (hj : j < l.length) (hf : g1 < l[j] - d) (hc : ∀ c ∈ cs, 0 ≤ c) : bestN g0 g1 d l cs j = bestOf g0 g1 d l cs := by
  rw [← bestN_all h (Nat.le_refl _)]
  have key : ∀ n, j ≤ n → n ≤ l.length → bestN g0 g1 d l cs n = bestN g0 g1 d l cs j := by
    intro n
    induction n with
    | zero => intro h1 _; obtain rfl : j = 0 := by omega
              rfl
    | succ n ih =>
      intro h1 h2
      by_cases e : j = n + 1
      · rw [e]
      · rw [bestN_succ h (by omega), ih (by omega) (by omega)]
        have hle : l[j] ≤ l[n] := by
          by_cases e2 : j = n
          · subst e2; omega
          · exact Int.le_of_lt (List.pairwise_iff_getElem.1 hs j n hj (by omega) (by omega))
        have hb : inB (l[n] - d) g0 g1 = false := inB_not.2 (by omega)
        rw [hb]
        have hnn : 0 ≤ bestN g0 g1 d l cs j := bestOf_nn _ _ _ _ _
        simp only [Bool.false_eq_true, if_false]
        omega
  exact (key l.length (by omega) (Nat.le_refl _)).symm
/-- a day is as far from the last one as it may be -/
def nearB (g0 g1 : Int) (last : Option Int) (d : Int) : Bool := match last with
  | none => true
  | some x => inB (d - x) g0 g1
/-- the smallest plan out of days with their numbers -/
def greedy (g0 g1 : Int) : List (Int × Int) → Option Int → Nat → Option (List Int)
  | _, _, 0 => some []
  | [], _, _ + 1 => none
  | (d, c) :: l, last, k + 1 =>
    if decide ((k : Int) + 1 ≤ c) && nearB g0 g1 last d then (greedy g0 g1 l (some d) k).map (d :: ·) else greedy g0 g1 l last (k + 1)
def planS : Option (List Int) → List Int × Int
  | some l => (l, 0)
  | none => ([], 7)
/-- what may be asked of Plan -/
def okP (s0 s1 g0 g1 T : Int) : Bool := spanB s0 s1 && (decide (1 ≤ g0) && (decide (g0 ≤ g1) && (decide (g1 ≤ 4000) && inB T 1 60)))
def planR (x : Alm) (rs : List DRl) (s0 s1 g0 g1 T : Int) : List Int × Int :=
  if bothE x rs = 0 then (if okP s0 s1 g0 g1 T then planS (greedy g0 g1 ((spanL x rs s0 s1).zip (cnts g0 g1 T (spanL x rs s0 s1))) none T.toNat) else ([], 3)) else ([], bothE x rs)
theorem daysL_sorted (x : Alm) (ps : List DPs) (fr to_ : Int) : (daysL x ps fr to_).Pairwise (· < ·) := by
  unfold daysL daysN
  refine List.Pairwise.filter _ ?_
  refine List.Pairwise.map _ ?_ List.pairwise_lt_range
  intro a b h
  omega
theorem daysL_bd (x : Alm) (ps : List DPs) (fr to_ : Int) : ∀ d ∈ daysL x ps fr to_, fr ≤ d ∧ d ≤ to_ := by
  intro d hd
  unfold daysL daysN at hd
  have := (List.mem_filter.1 hd).1
  simp only [List.mem_map, List.mem_range] at this
  obtain ⟨i, hi, rfl⟩ := this
  omega
end Go.Proofs.YtfbnllmmoaialaaGreat

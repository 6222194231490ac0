/- almanac: check, both. -/
import Derived.Test.YtfbnllmmoaialaaGreatZ10AnB
import Derived.Test.YtfbnllmmoaialaaGreatZ02Iter
import Derived.MapKept
import Derived.Laws.Bits64b
import Derived.Laws.Entries
namespace Go.Proofs.YtfbnllmmoaialaaGreat
open Go.RowKit

/-- an almanac lies in block b -/
structure AlmAt (W : World) (b : Nat) (x : Alm) : Prop where
  blk : Blk W b x.cells.toArray 28
  cyc : Sl Cyc.cells 2 W W.heap.size x.a x.cycles
theorem AlmAt.below {W W' : World} {b : Nat} {x : Alm} (h : AlmAt W b x) (hb : Below W.heap.size W W') : AlmAt W' b x := ⟨h.blk.below hb h.blk.lt, (h.cyc.below hb).more hb.size⟩
/-- the tests of a rule can be read -/
structure RulAt (W : World) (B : Nat) (r : DRl) : Prop where
  len : r.when_.length ≤ 1000000
  set : ∀ t ∈ r.when_, 0 ≤ t.set ∧ t.set < 18446744073709551616
  sl : Sl DTs.cells 5 W B r.wa r.when_
/-- rules can be read -/
structure RlsAt (W : World) (B : Nat) (A : Option Addr) (l : List DRl) : Prop where
  len : l.length ≤ 1000000
  sl : Sl DRl.cells 2 W B A l
  rul : ∀ r ∈ l, RulAt W B r
theorem RulAt.below {W W' : World} {B : Nat} {r : DRl} (h : RulAt W B r) (hb : Below B W W') : RulAt W' B r := ⟨h.len, h.set, h.sl.below hb⟩
theorem RulAt.more {W : World} {B B' : Nat} {r : DRl} (h : RulAt W B r) (hB : B ≤ B') : RulAt W B' r := ⟨h.len, h.set, h.sl.more hB⟩
theorem RlsAt.below {W W' : World} {B : Nat} {A : Option Addr} {l : List DRl} (h : RlsAt W B A l) (hb : Below B W W') : RlsAt W' B A l := ⟨h.len, h.sl.below hb, fun r hr => (h.rul r hr).below hb⟩
theorem RlsAt.more {W : World} {B B' : Nat} {A : Option Addr} {l : List DRl} (h : RlsAt W B A l) (hB : B ≤ B') : RlsAt W B' A l := ⟨h.len, h.sl.more hB, fun r hr => (h.rul r hr).more hB⟩
def badR (l : List Cyc) (r : DRl) : Bool := decide (6 < r.when_.length) || r.when_.any fun t => !tstB l t
/-- the error of rules -/
def chkE (l : List Cyc) (rs : List DRl) : Int := if 30 < rs.length then 5 else if rs.any (badR l) then 4 else 0
def bothE (x : Alm) (rs : List DRl) : Int := if almB x then chkE x.cycles rs else 2
theorem ent_checkG2 : Ent 74 := ent_of (fn := Tryz.f74) (by kernel_rfl) (by kernel_rfl) (by kernel_rfl)
theorem ent_checkG1 : Ent 72 := ent_of (fn := Tryz.f72) (by kernel_rfl) (by kernel_rfl) (by kernel_rfl)
set_option maxRecDepth 100000 in
theorem checkG2_any (B : Nat) (x : Alm) (t : DTs) (w : World) (hx : almB x = true) (hs : 0 ≤ t.set ∧ t.set < 18446744073709551616) (ha : AlmAt w B x) :
    Calls Tryz.prog 74 #[.agg #[.int .i64 t.kind, .int .i64 t.which, .int .u64 t.set, .int .i64 t.fr, .int .i64 t.to_], .pointer (some ⟨B, 0, none⟩)] w fun e w' => e = .returned (.bool (!tstB x.cycles t)) ∧ Below w.heap.size w w' := by
  obtain ⟨A, c, l, ⟨e, b, u⟩, ⟨d, p, f, m, y, s, k⟩⟩ := x
  obtain ⟨kd, wh, st, fr, to_⟩ := t
  simp only [almB, Bool.and_eq_true, decide_eq_true_eq, List.all_eq_true] at hx
  obtain ⟨⟨⟨hl, hc⟩, -⟩, -⟩ := hx
  have HV := Lib.hid (fun W (hW : Below w.heap.size w W) => isTest_any A c l e b u d p f m y s k kd wh st fr to_ W hl hc hs ((ha.cyc.below hW).more hW.size))
  have ga : Blk w B #[.slice A l.length c, .int .i64 e, .int .i64 b, .int .i64 u, .int .i64 d, .int .i64 p, .int .i64 f, .int .i64 m, .int .i64 y, .int .i64 s, .int .i64 k] 28 := ha.blk
  (have z0 := ga.cell 0; have z1 := ga.cell 1; have z2 := ga.cell 2; have z3 := ga.cell 3; have z4 := ga.cell 4; have z5 := ga.cell 5; have z6 := ga.cell 6; have z7 := ga.cell 7; have z8 := ga.cell 8; have z9 := ga.cell 9; have z10 := ga.cell 10; simp at z0 z1 z2 z3 z4 z5 z6 z7 z8 z9 z10)
  have hlt := ga.lt
  clear ga ha hc hs
  go_enter Tryz.func74, Tryz.ntmps74
  go_wp2_with (go_at_call 75; refine (HV.out _ (by (repeat (first | exact Below.refl _ _ | assumption | (refine Below.alloc ?_ (by first | omega | (simp; omega) | (simp; done)) _) | (refine Below.setCell ?_ (by first | omega | (simp; omega) | (simp; done)) _) | (refine Below.drew ?_) | (refine belowN ?_ _) | (refine Below.trans ?_ (Below.mono ‹Below _ _ _› (by first | omega | (simp; omega) | (simp; done)))))))).mono ?_; rintro _ W1 ⟨rfl, hb1⟩)
  go_ret
  exact ⟨rfl, bl2 (by (repeat (first | exact Below.refl _ _ | assumption | (refine Below.alloc ?_ (by first | omega | (simp; omega) | (simp; done)) _) | (refine Below.setCell ?_ (by first | omega | (simp; omega) | (simp; done)) _) | (refine Below.drew ?_) | (refine belowN ?_ _) | (refine Below.trans ?_ (Below.mono ‹Below _ _ _› (by first | omega | (simp; omega) | (simp; done))))))) hb1⟩
set_option maxRecDepth 100000 in
theorem checkG1_any (B : Nat) (x : Alm) (r : DRl) (w : World) (hx : almB x = true) (ha : AlmAt w B x) (hr : RulAt w w.heap.size r) :
    Calls Tryz.prog 72 #[.agg #[.slice r.wa r.when_.length r.wc, .bool r.allow], .pointer (some ⟨B, 0, none⟩)] w fun e w' => e = .returned (.bool (badR x.cycles r)) ∧ Below w.heap.size w w' := by
  have hlen := hr.len
  by_cases h6 : 6 < r.when_.length
  · have d1 : decide (6 < (r.when_.length : Int)) = true := by simp; omega
    have d1' : decide (6 < r.when_.length) = true := by simp; omega
    have HT : Hid (badR x.cycles r = true) := (by simp [badR, h6] : badR x.cycles r = true)
    clear hr ha
    go_enter Tryz.func72, Tryz.ntmps72
    go_wp2
    go_ret
    exact ⟨ret_bool HT.out.symm, by (repeat (first | exact Below.refl _ _ | assumption | (refine Below.alloc ?_ (by first | omega | (simp; omega) | (simp; done)) _) | (refine Below.setCell ?_ (by first | omega | (simp; omega) | (simp; done)) _) | (refine Below.drew ?_) | (refine belowN ?_ _) | (refine Below.trans ?_ (Below.mono ‹Below _ _ _› (by first | omega | (simp; omega) | (simp; done))))))⟩
  · have d1 : decide (6 < (r.when_.length : Int)) = false := by simp; omega
    have d1' : decide (6 < r.when_.length) = false := by simp; omega
    have HV := Lib.hid (fun W (hW : Below w.heap.size w W) => tany_any 74 #[.pointer (some ⟨B, 0, none⟩)] r.wa r.wc r.when_ (fun t => !tstB x.cycles t) W ent_checkG2 hr.len ((hr.below hW).more hW.size).sl (fun t ht W2 hW2 => checkG2_any B x t W2 hx (hr.set t ht) ((ha.below hW).below hW2)))
    obtain ⟨v, hv⟩ : ∃ v, v = r.when_.any fun t => !tstB x.cycles t := ⟨_, rfl⟩
    have HT : Hid (badR x.cycles r = v) := (by rw [hv]; simp [badR, h6] : badR x.cycles r = v)
    rw [← hv] at HV
    clear hr ha hv h6
    go_enter Tryz.func72, Tryz.ntmps72
    go_wp2_with (go_at_call 73; refine (HV.out _ (by (repeat (first | exact Below.refl _ _ | assumption | (refine Below.alloc ?_ (by first | omega | (simp; omega) | (simp; done)) _) | (refine Below.setCell ?_ (by first | omega | (simp; omega) | (simp; done)) _) | (refine Below.drew ?_) | (refine belowN ?_ _) | (refine Below.trans ?_ (Below.mono ‹Below _ _ _› (by first | omega | (simp; omega) | (simp; done)))))))).mono ?_; rintro _ W1 ⟨rfl, hb1⟩)
    go_ret
    exact ⟨ret_bool HT.out.symm, bl2 (by (repeat (first | exact Below.refl _ _ | assumption | (refine Below.alloc ?_ (by first | omega | (simp; omega) | (simp; done)) _) | (refine Below.setCell ?_ (by first | omega | (simp; omega) | (simp; done)) _) | (refine Below.drew ?_) | (refine belowN ?_ _) | (refine Below.trans ?_ (Below.mono ‹Below _ _ _› (by first | omega | (simp; omega) | (simp; done))))))) hb1⟩
set_option maxRecDepth 100000 in
set_option maxHeartbeats 1000000 in
theorem check_any (x : Alm) (A2 : Option Addr) (c2 : Nat) (rs : List DRl) (w : World) (hx : almB x = true) (hc : Sl Cyc.cells 2 w w.heap.size x.a x.cycles) (hr : RlsAt w w.heap.size A2 rs) :
    Calls Tryz.prog 46 #[.agg x.cells.toArray, .slice A2 rs.length c2] w fun e w' => e = .returned (.int .i64 (chkE x.cycles rs)) ∧ Below w.heap.size w w' := by
  have hlen := hr.len
  by_cases h30 : 30 < rs.length
  · have d1 : decide (30 < (rs.length : Int)) = true := by simp; omega
    have d1' : decide (30 < rs.length) = true := by simp; omega
    have HT : Hid (chkE x.cycles rs = 5) := (by simp [chkE, h30] : chkE x.cycles rs = 5)
    clear hr hc
    obtain ⟨A, c, l, ⟨e, b, u⟩, ⟨d, p, f, m, y, s, k⟩⟩ := x
    simp only [Alm.cells]
    go_enter Tryz.func46, Tryz.ntmps46
    go_wp2
    go_ret
    exact ⟨by rw [HT.out]; rfl, by (repeat (first | exact Below.refl _ _ | assumption | (refine Below.alloc ?_ (by first | omega | (simp; omega) | (simp; done)) _) | (refine Below.setCell ?_ (by first | omega | (simp; omega) | (simp; done)) _) | (refine Below.drew ?_) | (refine belowN ?_ _) | (refine Below.trans ?_ (Below.mono ‹Below _ _ _› (by first | omega | (simp; omega) | (simp; done))))))⟩
  · have d1 : decide (30 < (rs.length : Int)) = false := by simp; omega
    have d1' : decide (30 < rs.length) = false := by simp; omega
    have HA : Hid (AlmAt (w.alloc (.cells x.cells.toArray 28)) w.heap.size x) := ⟨Blk.at_ rfl, (hc.below ((Below.refl _ _).alloc (Nat.le_refl _) _)).more (by simp)⟩
    have HV := Lib.hid (fun W (hW : Below (w.heap.size + 1) (w.alloc (.cells x.cells.toArray 28)) W) => rany_any 72 #[.pointer (some ⟨w.heap.size, 0, none⟩)] A2 c2 rs (badR x.cycles) W ent_checkG1 hr.len (((hr.below ((Below.refl _ _).alloc (Nat.le_refl _) _)).below (hW.mono (by omega))).more (by have := hW.size; simp at this; omega)).sl
      (fun r hm W2 hW2 => checkG1_any w.heap.size x r W2 hx ((HA.out.below (hW.mono (by simp))).below hW2) ((((hr.rul r hm).below ((Below.refl _ _).alloc (Nat.le_refl _) _)).below (hW.mono (by omega))).more (by have := hW.size; simp at this; omega) |>.below hW2 |>.more hW2.size)))
    obtain ⟨v, hv⟩ : ∃ v, v = rs.any (badR x.cycles) := ⟨_, rfl⟩
    have HT : Hid (chkE x.cycles rs = if v then 4 else 0) := (by rw [hv]; simp only [chkE, if_neg h30] : chkE x.cycles rs = _)
    rw [← hv] at HV
    clear hr hc hv h30 HA
    obtain ⟨A, c, l, ⟨e, b, u⟩, ⟨d, p, f, m, y, s, k⟩⟩ := x
    simp only [Alm.cells] at *
    cases v
    all_goals
      go_enter Tryz.func46, Tryz.ntmps46
      go_wp2_with (go_at_call 71; refine (HV.out _ (by (repeat (first | exact Below.refl _ _ | assumption | (refine Below.alloc ?_ (by first | omega | (simp; omega) | (simp; done)) _) | (refine Below.setCell ?_ (by first | omega | (simp; omega) | (simp; done)) _) | (refine Below.drew ?_) | (refine belowN ?_ _) | (refine Below.trans ?_ (Below.mono ‹Below _ _ _› (by first | omega | (simp; omega) | (simp; done)))))))).mono ?_; rintro _ W1 ⟨rfl, hb1⟩)
      go_ret
      exact ⟨by rw [HT.out]; rfl, bl2 (by (repeat (first | exact Below.refl _ _ | assumption | (refine Below.alloc ?_ (by first | omega | (simp; omega) | (simp; done)) _) | (refine Below.setCell ?_ (by first | omega | (simp; omega) | (simp; done)) _) | (refine Below.drew ?_) | (refine belowN ?_ _) | (refine Below.trans ?_ (Below.mono ‹Below _ _ _› (by first | omega | (simp; omega) | (simp; done))))))) hb1⟩
set_option maxRecDepth 100000 in
set_option maxHeartbeats 1000000 in
theorem both_any (x : Alm) (A2 : Option Addr) (c2 : Nat) (rs : List DRl) (w : World) (hl : x.cycles.length ≤ 1000000) (hc : Sl Cyc.cells 2 w w.heap.size x.a x.cycles) (hr : RlsAt w w.heap.size A2 rs) :
    Calls Tryz.prog 23 #[.agg x.cells.toArray, .slice A2 rs.length c2] w fun e w' => e = .returned (.int .i64 (bothE x rs)) ∧ Below w.heap.size w w' := by
  have HC := Lib.hid (fun W (hW : Below w.heap.size w W) => by
    have h := checkF_any x.a x.c x.cycles x.sol.e x.sol.b x.sol.u x.lun.d x.lun.p x.lun.f x.lun.m x.lun.y x.lun.s x.lun.l W hl ((hc.below hW).more hW.size)
    exact (h : Calls Tryz.prog 45 #[.agg x.cells.toArray] W fun en w' => en = .returned (.int .i64 (almE x)) ∧ Below W.heap.size W w'))
  cases hx : almB x with
  | false =>
    have HT : Hid (bothE x rs = 2) := (by simp [bothE, hx] : bothE x rs = 2)
    have hE : almE x = 2 := by simp [almE, hx]
    rw [hE] at HC
    clear hE hx hc hr
    obtain ⟨A, c, l, ⟨e, b, u⟩, ⟨d, p, f, m, y, s, k⟩⟩ := x
    simp only [Alm.cells] at *
    go_enter Tryz.func23, Tryz.ntmps23
    go_wp2_with (go_at_call 45; refine (HC.out _ (by (repeat (first | exact Below.refl _ _ | assumption | (refine Below.alloc ?_ (by first | omega | (simp; omega) | (simp; done)) _) | (refine Below.setCell ?_ (by first | omega | (simp; omega) | (simp; done)) _) | (refine Below.drew ?_) | (refine belowN ?_ _) | (refine Below.trans ?_ (Below.mono ‹Below _ _ _› (by first | omega | (simp; omega) | (simp; done)))))))).mono ?_; rintro _ W1 ⟨rfl, hb1⟩)
    go_ret
    exact ⟨by rw [HT.out]; rfl, bl2 (by (repeat (first | exact Below.refl _ _ | assumption | (refine Below.alloc ?_ (by first | omega | (simp; omega) | (simp; done)) _) | (refine Below.setCell ?_ (by first | omega | (simp; omega) | (simp; done)) _) | (refine Below.drew ?_) | (refine belowN ?_ _) | (refine Below.trans ?_ (Below.mono ‹Below _ _ _› (by first | omega | (simp; omega) | (simp; done))))))) hb1⟩
  | true =>
    have HT : Hid (bothE x rs = chkE x.cycles rs) := (by simp [bothE, hx] : bothE x rs = _)
    have hE : almE x = 0 := by simp [almE, hx]
    rw [hE] at HC
    have HV := Lib.hid (fun W (hW : Below w.heap.size w W) => check_any x A2 c2 rs W hx ((hc.below hW).more hW.size) ((hr.below hW).more hW.size))
    obtain ⟨v, hv⟩ : ∃ v, v = chkE x.cycles rs := ⟨_, rfl⟩
    rw [← hv] at HV HT
    clear hE hx hc hr hv
    obtain ⟨A, c, l, ⟨e, b, u⟩, ⟨d, p, f, m, y, s, k⟩⟩ := x
    simp only [Alm.cells] at *
    go_enter Tryz.func23, Tryz.ntmps23
    go_wp2_with (first | (go_at_call 45; refine (HC.out _ (by (repeat (first | exact Below.refl _ _ | assumption | (refine Below.alloc ?_ (by first | omega | (simp; omega) | (simp; done)) _) | (refine Below.setCell ?_ (by first | omega | (simp; omega) | (simp; done)) _) | (refine Below.drew ?_) | (refine belowN ?_ _) | (refine Below.trans ?_ (Below.mono ‹Below _ _ _› (by first | omega | (simp; omega) | (simp; done)))))))).mono ?_; rintro _ W1 ⟨rfl, hb1⟩; have hw1 : Below w.heap.size w W1 := bl2 (by (repeat (first | exact Below.refl _ _ | assumption | (refine Below.alloc ?_ (by first | omega | (simp; omega) | (simp; done)) _) | (refine Below.setCell ?_ (by first | omega | (simp; omega) | (simp; done)) _) | (refine Below.drew ?_) | (refine belowN ?_ _) | (refine Below.trans ?_ (Below.mono ‹Below _ _ _› (by first | omega | (simp; omega) | (simp; done))))))) hb1; have ga : Blk W1 w.heap.size #[.slice A l.length c, .int .i64 e, .int .i64 b, .int .i64 u, .int .i64 d, .int .i64 p, .int .i64 f, .int .i64 m, .int .i64 y, .int .i64 s, .int .i64 k] 28 := (Blk.at_ rfl).below hb1 (by first | omega | (simp; omega) | (simp; done)); (have z0 := ga.cell 0; have z1 := ga.cell 1; have z2 := ga.cell 2; have z3 := ga.cell 3; have z4 := ga.cell 4; have z5 := ga.cell 5; have z6 := ga.cell 6; have z7 := ga.cell 7; have z8 := ga.cell 8; have z9 := ga.cell 9; have z10 := ga.cell 10; simp at z0 z1 z2 z3 z4 z5 z6 z7 z8 z9 z10)) | (go_at_call 46; refine (HV.out _ (by (repeat (first | exact Below.refl _ _ | assumption | (refine Below.alloc ?_ (by first | omega | (simp; omega) | (simp; done)) _) | (refine Below.setCell ?_ (by first | omega | (simp; omega) | (simp; done)) _) | (refine Below.drew ?_) | (refine belowN ?_ _) | (refine Below.trans ?_ (Below.mono ‹Below _ _ _› (by first | omega | (simp; omega) | (simp; done)))))))).mono ?_; rintro _ W2 ⟨rfl, hb2⟩))
    go_ret
    exact ⟨by rw [HT.out]; rfl, bl2 hw1 hb2⟩
end Go.Proofs.YtfbnllmmoaialaaGreat
namespace Go.Proofs.YtfbnllmmoaialaaGreat
open Go.RowKit

/-- a world of a class -/
structure Cls (K : World → Prop) where
  tgt : World
  h : K tgt
def World.cls {K : World → Prop} (E : Cls K) : World := E.tgt
theorem cls_of {K : World → Prop} {W : World} (h : K W) : ∃ E : Cls K, W = World.cls E := ⟨⟨W, h⟩, rfl⟩
theorem cls_get {K : World → Prop} {W : World} (h : ∃ E : Cls K, W = World.cls E) : K W := by obtain ⟨E, rfl⟩ := h; exact E.h
theorem wp_region_cls {P : Program} {id : Nat} {Q : Exit → Act → World → Prop} {a : Act} {w : World} {l : List Oper} (K : World → Prop) (hK : K w.drew) (hm : P.follows .mixedOrders = true) (hB : Region.lexB .any l.toArray = true)
    (h : wpQuiet P l.toArray (fun w' => ∃ E : Cls K, w' = World.cls E) (fun a' => ∀ w', (∃ E : Cls K, w' = World.cls E) → Q .normal a' w') l a) : (Code.region id l.toArray true).wp P Q a w :=
  wp_region_quiet (C := fun w' => ∃ E : Cls K, w' = World.cls E) hm hB (cls_of hK) (by simpa using h)
theorem wpIn_region_cls {P : Program} {lp n : Nat} {id : Nat} {Q : Exit → Act → World → Prop} {a : Act} {w : World} {l : List Oper} (K : World → Prop) (hK : K w.drew) (hm : P.follows .mixedOrders = true) (hB : Region.lexB .any l.toArray = true) (hnd : noDefer l.toArray = true)
    (h : wpQuiet P l.toArray (fun w' => ∃ E : Cls K, w' = World.cls E) (fun a' => ∀ w', (∃ E : Cls K, w' = World.cls E) → Q .normal a' w') l a) : (Code.region id l.toArray true).wpIn (Fence.wide.inRound lp) n P Q a w := by
  simp only [Region.lexB, Bool.and_eq_true] at hB
  refine wpIn_region_any hm (wpAnyIn_of_quietR (C := fun w' => ∃ E : Cls K, w' = World.cls E) (Q := fun a' => ∀ w', (∃ E : Cls K, w' = World.cls E) → Q .normal a' w') hnd (fun _ w' hw' h => h w' hw') _ _ _ _ (cls_of hK) ?_)
  have := wpAnyQ_lex (P := P) (C := fun w' => ∃ E : Cls K, w' = World.cls E) (md := .any) hB.1 l.toArray.toList 0 (Array.replicate l.toArray.size false) a (by simp) (by simpa using hB.2) (by simpa using h)
  simpa using this
theorem Calls.cls_of {P : Program} {f : FuncId} {args : Array Value} {K : World → Prop} {E : Cls K} {v : Value}
    (h : Calls P f args (World.cls E) fun e w' => e = .returned v ∧ K w') : Calls P f args (World.cls E) fun e w'' => e = .returned v ∧ ∃ E : Cls K, w'' = World.cls E :=
  h.mono fun _ _ ⟨he, hb⟩ => ⟨he, Go.Proofs.YtfbnllmmoaialaaGreat.cls_of hb⟩
theorem Calls.cls_below {P : Program} {f : FuncId} {args : Array Value} {K : World → Prop} {E : Cls K} {v : Value} (hK : ∀ W W', K W → Below W.heap.size W W' → K W')
    (h : Calls P f args (World.cls E) fun e w' => e = .returned v ∧ Below (World.cls E).heap.size (World.cls E) w') : Calls P f args (World.cls E) fun e w'' => e = .returned v ∧ ∃ E : Cls K, w'' = World.cls E :=
  h.mono fun _ _ ⟨he, hb⟩ => ⟨he, Go.Proofs.YtfbnllmmoaialaaGreat.cls_of (hK _ _ E.h hb)⟩

/-! maps whose keys are integers, entry by entry -/
theorem upd_int {P : Program} {w : World} {t kt e : TypeId} {b : Nat} {es : Array MapEntry} {clock : Nat} {q : IntKind} {n : Int} (v : Value) (ht : P.underlying t = some (.map kt e)) (hk : P.underlying kt = some (.int q))
    (hb : w.heap[b]? = some (.map es clock)) (hf : Instr.findNow (.int q) (.int q n) es.toList 0 = some none) :
    (Instr.mapUpdate t (.map (some b)) (.int q n) v).run P w = .ok () (w.putObj b (.map (es.push { key := .int q n, val := v, born := clock }) (clock + 1))) := by
  have h1 := MapKept.run_checkKey (w := w) (P := P) (kt := kt) (k := .int q n) hk (by simp [MapKept.IsKey]) false 9999
  simp [Instr.mapUpdate, run_underlying ht, MapKept.run_getObj_map hb, h1, MapKept.run_findKey hk hf, MapKept.run_setObj_map _ hb, Result.andThen, World.putObj]
theorem look_int {P : Program} {w : World} {t kt e : TypeId} {b : Nat} {es : Array MapEntry} {clock : Nat} {q : IntKind} {n : Int} {i : Nat} {v : Value} (ht : P.underlying t = some (.map kt e)) (hk : P.underlying kt = some (.int q))
    (hb : w.heap[b]? = some (.map es clock)) (hf : Instr.findNow (.int q) (.int q n) es.toList 0 = some (some (i, v))) :
    (Instr.lookup t (.map (some b)) (.int q n) false).run P w = .ok v w := by
  have h1 := MapKept.run_checkKey (w := w) (P := P) (kt := kt) (k := .int q n) hk (by simp [MapKept.IsKey]) es.isEmpty 9999
  simp [Instr.lookup, run_underlying ht, MapKept.run_getObj_map hb, h1, MapKept.run_findKey hk hf, Result.andThen]
theorem wpList_insert_int {P : Program} {ops : Array Oper} {rest : List Oper} {o : Oper} {a : Act} {Q : Exit → Act → World → Prop} {w : World}
    (hg : o.guard = none) (m x v : Operand) (t : TypeId) (hop : o.op = Op.insert t m x v)
    (k e : TypeId) (q : IntKind) (ht : P.underlying t = some (.map k e)) (hk : P.underlying k = some (.int q)) (b : Nat) (es : Array MapEntry) (clock : Nat)
    (hm : a.eval m = .map (some b)) (hb : w.heap[b]? = some (.map es clock)) (n : Int) (val : Value) (hx : a.eval x = .int q n) (hv : a.eval v = val) (hf : Instr.findNow (.int q) (.int q n) es.toList 0 = some none)
    (hK : ∀ w', w'.heap[b]? = some (.map (es.push { key := .int q n, val := val, born := clock }) (clock + 1)) → w.grownBy w' (some b) → w'.heap.size = w.heap.size → wpList P ops Q rest (a.put o.dst undef) w') :
    wpList P ops Q (o :: rest) a w := by
  refine wpList_plain hg fun K' hK' => ?_
  have hrun := upd_int val ht hk hb hf
  unfold Oper.wp
  simp [execOp, hop, hm, hx, hv, hrun, Result.andThen]
  exact hK' _ _ (hK _ (World.putObj_heap_same (Array.getElem?_eq_some_iff.1 hb).1) (grownBy_putObj' w b _) (by simp [World.putObj]))
theorem grown_same {a b c : World} {r : Option Nat} (h : a.grownBy b r) (k : b.grownBy c r) : a.grownBy c r :=
  ⟨k.os.trans h.os, k.tape.trans h.tape, k.output.trans h.output, Nat.le_trans h.size k.size, fun i hi hne => (k.block i (Nat.lt_of_lt_of_le hi h.size) hne).trans (h.block i hi hne)⟩
theorem grown_below {a b c : World} {r : Option Nat} (h : a.grownBy b r) (k : Below b.heap.size b c) : a.grownBy c r :=
  grown_same h ⟨k.os, k.tape, k.output, k.size, fun i hi _ => k.block i hi⟩
theorem below_of_grown {a b : World} {r B : Nat} (hB : B ≤ a.heap.size) (h : a.grownBy b (some r)) (hr : B ≤ r) : Below B a b := ⟨h.os, h.tape, h.output, h.size, fun i hi => h.block i (by omega) (by intro e; have := Option.some.inj e; omega)⟩
theorem Blk.grown {W W' : World} {b : Nat} {cs : Array Value} {t : TypeId} {r : Option Nat} (h : Blk W b cs t) (hg : W.grownBy W' r) (hne : some b ≠ r) : Blk W' b cs t := (hg.block b h.lt hne).trans h
/-! a loop variable in a box of its own -/
abbrev roundActB (T : Array Value) (ps : Array Tmp) (sl : List (Tmp × Nat)) (q : Tmp) (b : Nat) (xs : Array Value) : Act :=
  { tmps := (sl.foldl (fun t (p, i) => t.setIfInBounds p (xs.getD i undef)) ((ps.zip xs).foldl (fun t (p, v) => t.setIfInBounds p v) T)).setIfInBounds q (.pointer (some ⟨b, 0, none⟩)), defers := [] }
theorem wp_rangeB {g : Operand} {ps : Array Tmp} {assign body : Code} {Q : Exit → Act → World → Prop} {a : Act} {w : World} {gf : Nat} {lb : Array Value}
    (hg : a.eval g = .func (.func gf) #[] lb) (eg : Ent gf) {D : World → Prop} {Enc : Nat → World → Array Value → Prop} {N : Nat} (hit : Iter gf lb D Enc N)
    (sl : List (Tmp × Nat)) (q : Tmp) (j : Nat) (ty : TypeId) (I : Nat → World → Prop) (Ix : Code → World → Prop)
    (hI : ∀ k, Stab w.heap.size (I k)) (hIx : ∀ c, Stab w.heap.size (Ix c)) (hE : ∀ k xs, Stab w.heap.size (fun W => Enc k W xs)) (hD : ∀ k W, I k W → D W) (h0 : I 0 w)
    (hps : ∀ k W xs, Enc k W xs → xs.size = ps.size)
    (hassign : ∀ l k xs W (K : Act → World → Prop), Enc k W xs → K (roundActB a.tmps ps sl q W.heap.size xs) (W.alloc (.cells #[xs.getD j undef] ty)) → assign.wpIn (Fence.wide.inRound l) 1 Tryz.prog (Exit.then K (fun _ _ _ => False)) { tmps := (ps.zip xs).foldl (fun t (p, v) => t.setIfInBounds p v) a.tmps, defers := [] } W)
    (hbody : ∀ l k xs b W, k < N → I k W → Enc k W xs → Blk W b #[xs.getD j undef] ty → w.heap.size < l → l < W.heap.size → body.wpIn (Fence.wide.inRound l) 1 Tryz.prog (roundOut w.heap.size (I (k + 1)) Ix W) (roundActB a.tmps ps sl q b xs) W)
    (hdone : ∀ D W, I N W → w.heap.size ≤ D → W.heap[D]? = some (.deferred (some [])) → Q .normal { a with defers := { target := .collected D, args := #[] } :: a.defers } W)
    (hstop : ∀ D c W, Ix c W → w.heap.size ≤ D → W.heap[D]? = some (.deferred (some [])) → c.wp Tryz.prog Q { a with defers := { target := .collected D, args := #[] } :: a.defers } W) :
    (Code.rangeFunc g ps assign body).wp Tryz.prog Q a w := by
  refine wp_range hg eg hit I Ix (fun k a₁ W => I k W ∧ ∃ xs b, Enc k W xs ∧ Blk W b #[xs.getD j undef] ty ∧ a₁ = roundActB a.tmps ps sl q b xs) hI hIx
    (fun k a₁ => (hI k).and (Stab.ex fun xs => Stab.ex fun b => (hE k xs).and ((Stab.blk _ _ _ _).and (Stab.pure _)))) hD h0
    (fun k W xs _ _ h => hps k W xs h) (fun l k xs W hk hi he h1 h2 => ?_) (fun l k a₁ W hk hax h1 h2 => ?_) hdone hstop
  · refine wpIn_mono (hassign l k xs W (fun a₁ W' => a₁ = roundActB a.tmps ps sl q W.heap.size xs ∧ W' = W.alloc (.cells #[xs.getD j undef] ty)) he ⟨rfl, rfl⟩) ?_
    intro e a₁ W' hp
    have hb : Below W.heap.size W (W.alloc (.cells #[xs.getD j undef] ty)) := (Below.refl _ _).alloc (Nat.le_refl _) _
    cases e with
    | normal => obtain ⟨rfl, rfl⟩ := hp; exact ⟨keepsFrom_below hb, (hI k).below hi hb, xs, W.heap.size, (hE k xs).below he hb, Blk.at_ rfl, rfl⟩
    | ret => exact hp.elim
    | exit id => exact hp.elim
    | goto t => exact hp.elim
    | panic ch => exact hp.elim
    | outgrown => exact hp.elim
  · obtain ⟨hi, xs, b, he, hbk, rfl⟩ := hax
    exact hbody l k xs b W hk hi he hbk h1 h2
theorem wp_rangeBC {g : Operand} {ps : Array Tmp} {assign body : Code} {Q : Exit → Act → World → Prop} {a : Act} {w : World} {gf : Nat} {lb : Array Value}
    (hg : a.eval g = .func (.func gf) #[] lb) (eg : Ent gf) {D : World → Prop} {Enc : Nat → World → Array Value → Prop} {N : Nat} (hit : Iter gf lb D Enc N)
    (sl : List (Tmp × Nat)) (q : Tmp) (bc : Array Value → Array Value) (ty : TypeId) (I : Nat → World → Prop) (Ix : Code → World → Prop)
    (hI : ∀ k, Stab w.heap.size (I k)) (hIx : ∀ c, Stab w.heap.size (Ix c)) (hE : ∀ k xs, Stab w.heap.size (fun W => Enc k W xs)) (hD : ∀ k W, I k W → D W) (h0 : I 0 w)
    (hps : ∀ k W xs, Enc k W xs → xs.size = ps.size)
    (hassign : ∀ l k xs W (K : Act → World → Prop), Enc k W xs → (∀ W', Below W.heap.size W W' → Blk W' W.heap.size (bc xs) ty → K (roundActB a.tmps ps sl q W.heap.size xs) W') → assign.wpIn (Fence.wide.inRound l) 1 Tryz.prog (Exit.then K (fun _ _ _ => False)) { tmps := (ps.zip xs).foldl (fun t (p, v) => t.setIfInBounds p v) a.tmps, defers := [] } W)
    (hbody : ∀ l k xs b W, k < N → I k W → Enc k W xs → Blk W b (bc xs) ty → w.heap.size < l → l < W.heap.size → body.wpIn (Fence.wide.inRound l) 1 Tryz.prog (roundOut w.heap.size (I (k + 1)) Ix W) (roundActB a.tmps ps sl q b xs) W)
    (hdone : ∀ D W, I N W → w.heap.size ≤ D → W.heap[D]? = some (.deferred (some [])) → Q .normal { a with defers := { target := .collected D, args := #[] } :: a.defers } W)
    (hstop : ∀ D c W, Ix c W → w.heap.size ≤ D → W.heap[D]? = some (.deferred (some [])) → c.wp Tryz.prog Q { a with defers := { target := .collected D, args := #[] } :: a.defers } W) :
    (Code.rangeFunc g ps assign body).wp Tryz.prog Q a w := by
  refine wp_range hg eg hit I Ix (fun k a₁ W => I k W ∧ ∃ xs b, Enc k W xs ∧ Blk W b (bc xs) ty ∧ a₁ = roundActB a.tmps ps sl q b xs) hI hIx
    (fun k a₁ => (hI k).and (Stab.ex fun xs => Stab.ex fun b => (hE k xs).and ((Stab.blk _ _ _ _).and (Stab.pure _)))) hD h0
    (fun k W xs _ _ h => hps k W xs h) (fun l k xs W hk hi he h1 h2 => ?_) (fun l k a₁ W hk hax h1 h2 => ?_) hdone hstop
  · refine wpIn_mono (hassign l k xs W (fun a₁ W' => a₁ = roundActB a.tmps ps sl q W.heap.size xs ∧ Below W.heap.size W W' ∧ Blk W' W.heap.size (bc xs) ty) he (fun W' h1 h2 => ⟨rfl, h1, h2⟩)) ?_
    intro e a₁ W' hp
    cases e with
    | normal => obtain ⟨rfl, hb, hbk⟩ := hp; exact ⟨keepsFrom_below hb, (hI k).below hi hb, xs, W.heap.size, (hE k xs).below he hb, hbk, rfl⟩
    | ret => exact hp.elim
    | exit id => exact hp.elim
    | goto t => exact hp.elim
    | panic ch => exact hp.elim
    | outgrown => exact hp.elim
  · obtain ⟨hi, xs, b, he, hbk, rfl⟩ := hax
    exact hbody l k xs b W hk hi he hbk h1 h2
theorem round2B (T : Array Value) (p q r s : Tmp) (b : Nat) (x y : Value) : roundActB T #[p, q] [(r, 0)] s b #[x, y] = { tmps := (((T.setIfInBounds p x).setIfInBounds q y).setIfInBounds r x).setIfInBounds s (.pointer (some ⟨b, 0, none⟩)), defers := [] } := by simp [roundActB]
theorem keepsFrom_grown {B z : Nat} {W W' : World} {cs : Array Value} {t : TypeId} (h : W.grownBy W' (some z)) (hz : Blk W z cs t) : KeepsFrom B W W' :=
  ⟨h.size, fun k o _ hk ho => (h.block k (Array.getElem?_eq_some_iff.1 hk).1 (by intro e; have e := Option.some.inj e; subst e; unfold Blk at hz; rw [hz] at hk; cases hk; cases ho)).trans hk⟩
end Go.Proofs.YtfbnllmmoaialaaGreat
namespace Go.Proofs.YtfbnllmmoaialaaGreat
open Go.RowKit

theorem u64bit (a i : Nat) (ha : a < 18446744073709551616) : bits BinOp.and IntKind.u64 ((a : Int) / 2 ^ i) 1 = ((a / 2 ^ i % 2 : Nat) : Int) := by
  have h1 : (a : Int) / 2 ^ i = ((a / 2 ^ i : Nat) : Int) := by simp
  have h2 : a / 2 ^ i < 18446744073709551616 := Nat.lt_of_le_of_lt (Nat.div_le_self _ _) ha
  rw [h1]
  have := bits_and_u64_nat (a / 2 ^ i) 1 h2 (by omega)
  rw [Nat.and_one_is_mod] at this
  exact this
theorem run_store_func (P : Program) (w : World) (a : Addr) (m : Mode) (f : Fn) (b c : Array Value) : (store a (.func f b c) m).run P w = stored P w a (.func f b c) m := run_store P w a _ m rfl
attribute [local go_sem] run_store_func
/-- number n is in a set -/
def bitB (st : Int) (n : Nat) : Bool := st.toNat.testBit n
theorem ent_lkIn : Ent 76 := ent_of (fn := Tryz.f76) (by kernel_rfl) (by kernel_rfl) (by kernel_rfl)
theorem lkIn_any (kd wh st fr to_ : Int) (n : Nat) (w : World) (hs : 0 ≤ st ∧ st < 18446744073709551616) (hn : n < 64) :
    Calls Tryz.prog 76 #[.agg #[.int .i64 kd, .int .i64 wh, .int .u64 st, .int .i64 fr, .int .i64 to_], .int .i64 n] w fun e w' => e = .returned (.bool (bitB st n)) ∧ Below w.heap.size w w' := by
  obtain ⟨S, rfl⟩ := Int.eq_ofNat_of_zero_le hs.1
  have q1 := u64bit S n (by omega)
  have HT : Hid (bitB (S : Int) n = (((S / 2 ^ n % 2 : Nat) : Int) == 1)) := (by
    unfold bitB
    rw [Int.toNat_natCast, Nat.testBit_eq_decide_div_mod_eq]
    by_cases h : S / 2 ^ n % 2 = 1
    · rw [h]; rfl
    · have h0 : S / 2 ^ n % 2 = 0 := by omega
      rw [h0]; rfl : bitB (S : Int) n = _)
  go_enter Tryz.func76, Tryz.ntmps76
  go_wp2
  go_ret
  exact ⟨ret_bool HT.out.symm, by (repeat (first | exact Below.refl _ _ | assumption | (refine Below.alloc ?_ (by first | omega | (simp; omega) | (simp; done)) _) | (refine Below.setCell ?_ (by first | omega | (simp; omega) | (simp; done)) _) | (refine Below.drew ?_) | (refine belowN ?_ _) | (refine Below.trans ?_ (Below.mono ‹Below _ _ _› (by first | omega | (simp; omega) | (simp; done))))))⟩
theorem alloc_at {W : World} {n : Nat} {o : Obj} (h : n = W.heap.size) : (W.alloc o).heap[n]? = some o := h ▸ World.alloc_heap_new W o
/-- the tests by their kinds -/
def lkMap (f0 : Nat) : Array MapEntry := #[⟨.int .i64 1, .func (.func 77) #[] #[.pointer (some ⟨f0, 0, none⟩)], 0⟩, ⟨.int .i64 2, .func (.func 78) #[] #[.pointer (some ⟨f0, 0, none⟩)], 1⟩, ⟨.int .i64 3, .func (.func 80) #[] #[.pointer (some ⟨f0, 0, none⟩)], 2⟩, ⟨.int .i64 4, .func (.func 81) #[] #[.pointer (some ⟨f0, 0, none⟩)], 3⟩,
  ⟨.int .i64 5, .func (.func 83) #[] #[.pointer (some ⟨f0, 0, none⟩)], 4⟩, ⟨.int .i64 6, .func (.func 84) #[] #[], 5⟩, ⟨.int .i64 7, .func (.func 85) #[] #[], 6⟩]
/-- what stays of a look: the almanac in block A, the test of sets in block f0, the tests by their kinds in M; the look itself lies in block z -/
structure LkS (x : Alm) (z A f0 M : Nat) (V : World) : Prop where
  alm : Blk V A x.cells.toArray 28
  cyc : Sl Cyc.cells 2 V z x.a x.cycles
  inb : Blk V f0 #[.func (.func 76) #[] #[]] 117
  map : V.heap[M]? = some (.map (lkMap f0) 7)
  la : A < z
  lf : f0 < z
  lm : M < z
  lz : z < V.heap.size
abbrev lkv (A : Nat) (day : Int) (sv mv : Value) (M : Nat) : Array Value := #[.pointer (some ⟨A, 0, none⟩), .int .i64 day, sv, mv, .map (some M)]
def sunOk (x : Alm) (day : Int) (z : Nat) (W : World) (v : Value) : Prop := v = .pointer none ∨ ∃ b, v = .pointer (some ⟨b, 0, none⟩) ∧ b ≠ z ∧ Blk W b (solI x.sol day).cells.toArray 54
def moonOk (x : Alm) (day : Int) (z : Nat) (W : World) (v : Value) : Prop := v = .pointer none ∨ ∃ b, v = .pointer (some ⟨b, 0, none⟩) ∧ b ≠ z ∧ Blk W b (moonI x.lun day).cells.toArray 59
/-- what turns of a look, seen from a world V -/
structure LkD (x : Alm) (z A M : Nat) (day : Int) (V W : World) : Prop where
  gr : V.grownBy W (some z)
  at_ : ∃ sv mv, Blk W z (lkv A day sv mv M) 123 ∧ sunOk x day z W sv ∧ moonOk x day z W mv
theorem sunOk.grown {x : Alm} {day : Int} {z : Nat} {W W' : World} {v : Value} (h : sunOk x day z W v) (hg : W.grownBy W' (some z)) : sunOk x day z W' v := by
  rcases h with h | ⟨b, h1, h2, h3⟩
  · exact .inl h
  · exact .inr ⟨b, h1, h2, h3.grown hg (by intro e; exact h2 (Option.some.inj e))⟩
theorem moonOk.grown {x : Alm} {day : Int} {z : Nat} {W W' : World} {v : Value} (h : moonOk x day z W v) (hg : W.grownBy W' (some z)) : moonOk x day z W' v := by
  rcases h with h | ⟨b, h1, h2, h3⟩
  · exact .inl h
  · exact .inr ⟨b, h1, h2, h3.grown hg (by intro e; exact h2 (Option.some.inj e))⟩
theorem grownZ {W W' : World} (z : Nat) (h : Below W.heap.size W W') : W.grownBy W' (some z) := ⟨h.os, h.tape, h.output, h.size, fun k hk _ => h.block k hk⟩
theorem LkD.below {x : Alm} {z A M : Nat} {day : Int} {V W W' : World} (h : LkD x z A M day V W) (hb : Below W.heap.size W W') : LkD x z A M day V W' := by
  obtain ⟨sv, mv, h1, h2, h3⟩ := h.at_
  exact ⟨grown_below h.gr hb, sv, mv, h1.below hb h1.lt, h2.grown (grownZ z hb), h3.grown (grownZ z hb)⟩
theorem LkS.grown {x : Alm} {z A f0 M : Nat} {V W : World} (h : LkS x z A f0 M V) (hg : V.grownBy W (some z)) : LkS x z A f0 M W := by
  have hn : ∀ b, b < z → some b ≠ some z := fun b hb e => by have := Option.some.inj e; omega
  refine ⟨h.alm.grown hg (hn _ h.la), h.cyc.keep fun p hp => World.cell?_of_block (hg.block p.block (by have := h.lz; omega) (hn _ hp)), h.inb.grown hg (hn _ h.lf), (hg.block _ (by have := h.lz; have := h.lm; omega) (hn _ h.lm)).trans h.map, h.la, h.lf, h.lm, Nat.lt_of_lt_of_le h.lz hg.size⟩
theorem LkD.base {x : Alm} {z A M : Nat} {day : Int} {V W W' : World} (h : V.grownBy W (some z)) (k : LkD x z A M day W W') : LkD x z A M day V W' := ⟨grown_same h k.gr, k.at_⟩
theorem LkD.self {x : Alm} {z A M : Nat} {day : Int} {V W : World} (h : LkD x z A M day V W) : LkD x z A M day W W := ⟨grownZ z (Below.refl _ _), h.at_⟩
theorem below_trans_grown {a b c : World} {r B : Nat} (h : Below B a b) (hg : b.grownBy c (some r)) (hr : B ≤ r) (hB : B ≤ a.heap.size := by exact Nat.le_refl _) : Below B a c := h.grown hg (Nat.le_trans hB h.size) (fun k e => by have := Option.some.inj e; omega)
set_option maxRecDepth 100000 in
set_option maxHeartbeats 1000000 in
theorem newLook_any (x : Alm) (w : World) (hc : Sl Cyc.cells 2 w w.heap.size x.a x.cycles) :
    Calls Tryz.prog 48 #[.agg x.cells.toArray] w fun e w' => e = .returned (.pointer (some ⟨w.heap.size + 3, 0, none⟩)) ∧ LkS x (w.heap.size + 3) w.heap.size (w.heap.size + 1) (w.heap.size + 2) w' ∧ Blk w' (w.heap.size + 3) (lkv w.heap.size 0 (.pointer none) (.pointer none) (w.heap.size + 2)) 123 ∧ Below w.heap.size w w' ∧ w'.heap.size = w.heap.size + 4 := by
  obtain ⟨A, c, l, ⟨e, b, u⟩, ⟨d, p, f, m, y, s, k⟩⟩ := x
  simp only [Alm.cells] at *
  have HC := Lib.hid hc
  clear hc
  have hmm := @run_makeMap Tryz.prog
  go_enter Tryz.func48, Tryz.ntmps48
  go_wp2_with (first | (refine wpList_insert_int rfl _ _ _ 121 rfl 87 _ .i64 Tryz.underlying121 Tryz.underlying87 _ _ _ rfl h1 _ _ rfl rfl (by rfl) ?_; intro W2 h2 g2 s2; have hG2 := grown_same hG g2; have hS2 := s2.trans hS1; clear g2 s2 hG hS1 h1; rename World => W1; have h1 := h2; have hG := hG2; have hS1 := hS2; clear h2 hG2 hS2) | (refine wpList_insert_int rfl _ _ _ 121 rfl 87 _ .i64 Tryz.underlying121 Tryz.underlying87 _ _ _ rfl (alloc_at (by simp)) _ _ rfl rfl (by rfl) ?_; intro W1 h1 hG hS1))
  go_ret
  have hz : W1.heap.size = w.heap.size + 3 := hS1.trans (by simp)
  have hb : Below w.heap.size w W1 := below_trans_grown (by (repeat (first | exact Below.refl _ _ | assumption | (refine Below.alloc ?_ (by first | omega | (simp; omega) | (simp; done)) _) | (refine Below.setCell ?_ (by first | omega | (simp; omega) | (simp; done)) _) | (refine Below.drew ?_) | (refine belowN ?_ _) | (refine Below.trans ?_ (Below.mono ‹Below _ _ _› (by first | omega | (simp; omega) | (simp; done))))))) hG (by omega)
  have hm : W1.heap[w.heap.size + 2]? = some (.map (lkMap (w.heap.size + 1)) 7) := h1
  have hn : ∀ i, i < 2 → some (w.heap.size + i) ≠ some (w.heap.size + 2) := fun i hi e => by have := Option.some.inj e; omega
  refine ⟨rfl, ⟨((((Blk.at_ rfl).alloc _).alloc _).grown hG (hn 0 (by omega))).alloc _, (HC.out.below (hb.alloc (by omega) _)).more (by omega), ((((Blk.at_ (by simp)).alloc _).grown hG (hn 1 (by omega))).alloc _), (Below.heap_alloc _ _ _ (by omega)).trans hm, by omega, by omega, by omega, by simp; omega⟩, Blk.at_ hz.symm, hb.alloc (by omega) _, by simp [hz]⟩
end Go.Proofs.YtfbnllmmoaialaaGreat

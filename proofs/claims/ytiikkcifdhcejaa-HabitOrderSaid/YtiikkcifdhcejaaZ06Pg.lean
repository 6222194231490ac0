/- habit, plain: chances of registers. -/
import Derived.Test.YtiikkcifdhcejaaZ03Pd
import Derived.Test.YtiikkcifdhcejaaZ05Pm
import Derived.Test.YtiikkcifdhcejaaWa
import Derived.Test.YtiikkcifdhcejaaZ01Cls
import Derived.Lib.Strings
import Derived.Lib.Slices
import Derived.Lib.Small
import Derived.Lib.Walk
import Derived.Lib.BitFns
namespace Go.Proofs.Ytiikkcifdhcejaa

/-- the chance of a register, by the shares of its casts -/
def chGo : List (Int × Int) → Ch → Int × Int × Int
  | [], c => (c.n, c.d, 0)
  | (w, s) :: t, c => if w = 0 then (0, 1, 0)
    else if (bothR c ⟨ratN w s, ratD w s⟩).2.2 = 0 then chGo t ⟨(bothR c ⟨ratN w s, ratD w s⟩).1, (bothR c ⟨ratN w s, ratD w s⟩).2.1⟩
    else (0, 0, (bothR c ⟨ratN w s, ratD w s⟩).2.2)
/-- the error of a model and a register -/
def regE (m : HMd) (l : List Int) : Int := if modB m = false then 2 else if 400 < l.length then 5 else if (l.all fun x => decide (0 ≤ x ∧ x < m.outs)) = false then 2 else 0
def chanR (m : HMd) (l : List Int) : Int × Int × Int := if regE m l = 0 then chGo (shL m l) ⟨1, 1⟩ else (0, 0, regE m l)
/-- weights are no greater than sums as long as none was 0 -/
def GoOk : List (Int × Int) → Prop
  | [] => True
  | (w, s) :: t => 0 ≤ w ∧ w ≤ s ∧ 1 ≤ s ∧ s ≤ 32000 ∧ (w ≠ 0 → GoOk t)
def prW : List (Int × Int) → Int
  | [] => 1
  | (w, _) :: t => w * prW t
def prS : List (Int × Int) → Int
  | [] => 1
  | (_, s) :: t => s * prS t
theorem prW_append (m : List (Int × Int)) : ∀ l, prW (l ++ m) = prW l * prW m
  | [] => by simp [prW]
  | (w, s) :: l => by simp only [List.cons_append, prW, prW_append m l, Int.mul_assoc]
theorem prS_append (m : List (Int × Int)) : ∀ l, prS (l ++ m) = prS l * prS m
  | [] => by simp [prS]
  | (w, s) :: l => by simp only [List.cons_append, prS, prS_append m l, Int.mul_assoc]
theorem ok_one : OkC ⟨1, 1⟩ := ok_mk ⟨by omega, by omega, rfl⟩ (by omega) (by omega) (by omega)
theorem ok_zero : OkC ⟨0, 1⟩ := ok_mk ⟨by omega, by omega, rfl⟩ (by omega) (by omega) (by omega)
/-- a chance that is told has the value of all shares -/
theorem chGo_val : ∀ (l : List (Int × Int)) (c : Ch) {n d : Int}, GoOk l → OkC c → chGo l c = (n, d, 0) → OkC ⟨n, d⟩ ∧ n * (c.d * prS l) = d * (c.n * prW l)
  | [], c, n, d, _, hc, h => by
    simp only [chGo, Prod.mk.injEq] at h
    obtain ⟨rfl, rfl, _⟩ := h
    exact ⟨hc, by simp only [prS, prW]; rw [Int.mul_one, Int.mul_one, Int.mul_comm]⟩
  | (w, s) :: t, c, n, d, hg, hc, h => by
    obtain ⟨h1, h2, h3, h4, h5⟩ := hg
    simp only [chGo] at h
    by_cases hw : w = 0
    · rw [if_pos hw] at h
      simp only [Prod.mk.injEq] at h
      obtain ⟨rfl, rfl, _⟩ := h
      subst hw
      exact ⟨ok_zero, by simp [prW]⟩
    · rw [if_neg hw] at h
      by_cases he : (bothR c ⟨ratN w s, ratD w s⟩).2.2 = 0
      · rw [if_pos he] at h
        obtain ⟨_, _, o3, o4⟩ := both_ok he
        generalize bothR c ⟨ratN w s, ratD w s⟩ = b at *
        obtain ⟨bn, bd, be⟩ := b
        simp only at o3 o4 h
        obtain ⟨r1, r2⟩ := chGo_val t ⟨bn, bd⟩ (h5 hw) o3 h
        refine ⟨r1, ?_⟩
        simp only at r2
        have hcr := rat_cross h1 (show 0 < s by omega)
        have hrd : 1 ≤ ratD w s := (rat_ok h1 (show 0 < s by omega) h2 (by omega)).d1
        have hbd := o3.d1
        have hcd := hc.d1
        simp only at hbd
        simp only [prS, prW]
        -- n * bd * S = d * bn * W; bn * (cd * rd) = bd * (cn * rn); rn * s = w * rd
        apply Int.eq_of_mul_eq_mul_right (a := ratD w s * bd) (by
          have := Int.mul_pos (show 0 < ratD w s by omega) (show 0 < bd by omega); omega)
        calc n * (c.d * (s * prS t)) * (ratD w s * bd) = n * (bd * prS t) * (c.d * ratD w s * s) := by ac_rfl
          _ = d * (bn * prW t) * (c.d * ratD w s * s) := by rw [r2]
          _ = bn * (c.d * ratD w s) * (d * prW t * s) := by ac_rfl
          _ = bd * (c.n * ratN w s) * (d * prW t * s) := by rw [o4]
          _ = ratN w s * s * (bd * c.n * d * prW t) := by ac_rfl
          _ = w * ratD w s * (bd * c.n * d * prW t) := by rw [hcr]
          _ = d * (c.n * (w * prW t)) * (ratD w s * bd) := by ac_rfl
      · rw [if_neg he] at h
        simp only [Prod.mk.injEq] at h
        exact absurd h.2.2 he
theorem prS_pos : ∀ {l : List (Int × Int)}, (∀ x ∈ l, 1 ≤ x.2) → 0 < prS l
  | [], _ => by simp [prS]
  | (w, s) :: t, h => by
    have h1 := prS_pos (l := t) fun x hx => h x (by simp [hx])
    have h2 := h (w, s) (by simp)
    simp only at h2
    simp only [prS]
    exact Int.mul_pos (by omega) h1
/-- two registers with the same products have the same chance, if both are told -/
theorem chGo_same {l m : List (Int × Int)} {n d n' d' : Int} (hl : GoOk l) (hm : GoOk m) (h1 : chGo l ⟨1, 1⟩ = (n, d, 0)) (h2 : chGo m ⟨1, 1⟩ = (n', d', 0)) (hs : ∀ x ∈ l, 1 ≤ x.2) (hs' : ∀ x ∈ m, 1 ≤ x.2) (e : prW l * prS m = prW m * prS l) : n = n' ∧ d = d' := by
  obtain ⟨o1, v1⟩ := chGo_val l _ hl ok_one h1
  obtain ⟨o2, v2⟩ := chGo_val m _ hm ok_one h2
  simp only [Int.one_mul] at v1 v2
  have d1 := o1.d1; have d2 := o2.d1
  simp only at d1 d2
  refine co_unique o1.co o2.co (by omega) (by omega) ?_
  have p1 := prS_pos hs; have p2 := prS_pos hs'
  show n * d' = n' * d
  apply Int.eq_of_mul_eq_mul_right (a := prS l * prS m) (by have := Int.mul_pos p1 p2; omega)
  calc n * d' * (prS l * prS m) = n * prS l * (d' * prS m) := by ac_rfl
    _ = d * prW l * (d' * prS m) := by rw [v1]
    _ = d * d' * (prW l * prS m) := by ac_rfl
    _ = d * d' * (prW m * prS l) := by rw [e]
    _ = d' * prW m * (d * prS l) := by ac_rfl
    _ = n' * prS m * (d * prS l) := by rw [v2]
    _ = n' * d * (prS l * prS m) := by ac_rfl
/-- with all weights and sums doubled nothing is changed -/
theorem rat_two {w s : Int} (hw : 0 ≤ w) (hs : 0 < s) : ratN (2 * w) (2 * s) = ratN w s ∧ ratD (2 * w) (2 * s) = ratD w s := by
  have hg : gI (2 * w) (2 * s) = 2 * gI w s := by
    unfold gI
    obtain ⟨a, rfl⟩ := Int.eq_ofNat_of_zero_le hw
    obtain ⟨b, rfl⟩ := Int.eq_ofNat_of_zero_le (show 0 ≤ s by omega)
    rw [show (2 * (a : Int)).toNat = 2 * a by omega, show (2 * (b : Int)).toNat = 2 * b by omega, Int.toNat_natCast, Int.toNat_natCast, Nat.gcd_mul_left]
    simp
  have g0 : 0 < gI w s := gI_pos (.inr hs)
  unfold ratN ratD
  rw [hg]
  exact ⟨Int.mul_ediv_mul_of_pos _ _ (by omega), Int.mul_ediv_mul_of_pos _ _ (by omega)⟩
theorem chGo_two : ∀ (l : List (Int × Int)) (c : Ch), (∀ x ∈ l, 0 ≤ x.1 ∧ 1 ≤ x.2) → chGo (l.map fun x => (2 * x.1, 2 * x.2)) c = chGo l c
  | [], c, _ => rfl
  | (w, s) :: t, c, h => by
    obtain ⟨h1, h2⟩ := h (w, s) (by simp)
    simp only at h1 h2
    obtain ⟨e1, e2⟩ := rat_two h1 (show 0 < s by omega)
    simp only [List.map_cons, chGo, e1, e2]
    by_cases hw : w = 0
    · rw [if_pos hw, if_pos (by omega)]
    · rw [if_neg hw, if_neg (by omega)]
      by_cases he : (bothR c ⟨ratN w s, ratD w s⟩).2.2 = 0
      · rw [if_pos he, if_pos he]
        exact chGo_two t _ fun x hx => h x (by simp [hx])
      · rw [if_neg he, if_neg he]
end Go.Proofs.Ytiikkcifdhcejaa
namespace Go.Proofs.Ytiikkcifdhcejaa
open Go.RowKit

/-- an outcome is refused -/
def outB (n x : Int) : Bool := decide (x < 0 ∨ n ≤ x)
def inE (n : Int) (l : List Int) : Int := if 400 < l.length then 5 else if n < 1000000000000000 ∧ l.any (outB n) = true then 2 else 0
set_option maxRecDepth 100000 in
theorem within1_any (n x : Int) (p : Nat) (W : World) (gp : Blk W p #[.int .i64 n] 3) : Calls Try.prog 87 (#[.int .i64 x] ++ #[.pointer (some ⟨p, 0, none⟩)]) W fun e W' => e = .returned (.bool (outB n x)) ∧ Below W.heap.size W W' := by
  have zp := gp.cell 0
  simp at zp
  by_cases h1 : x < 0
  · have HT : Hid (outB n x = true) := (by simp [outB]; omega : outB n x = true)
    have t1 : decide (x < 0) = true := by simpa using h1
    go_enter Try.func87, Try.ntmps87
    go_wp2
    go_ret
    exact ⟨ret_bool HT.out.symm, by (repeat (first | exact Below.refl _ _ | assumption | (refine Below.alloc ?_ (by first | omega | (simp; omega) | (simp; done)) _) | (refine Below.setCell ?_ (by first | omega | (simp; omega) | (simp; done)) _) | (refine Below.drew ?_) | (refine belowN ?_ _) | (refine Below.trans ?_ (Below.mono ‹Below _ _ _› (by first | omega | (simp; omega) | (simp; done))))))⟩
  · have t1 : decide (x < 0) = false := by simpa using h1
    by_cases h2 : n ≤ x
    · have HT : Hid (outB n x = true) := (by simp [outB]; omega : outB n x = true)
      have t2 : decide (n ≤ x) = true := by simpa using h2
      go_enter Try.func87, Try.ntmps87
      go_wp2
      go_ret
      exact ⟨ret_bool HT.out.symm, by (repeat (first | exact Below.refl _ _ | assumption | (refine Below.alloc ?_ (by first | omega | (simp; omega) | (simp; done)) _) | (refine Below.setCell ?_ (by first | omega | (simp; omega) | (simp; done)) _) | (refine Below.drew ?_) | (refine belowN ?_ _) | (refine Below.trans ?_ (Below.mono ‹Below _ _ _› (by first | omega | (simp; omega) | (simp; done))))))⟩
    · have HT : Hid (outB n x = false) := (by simp [outB]; omega : outB n x = false)
      have t2 : decide (n ≤ x) = false := by simpa using h2
      go_enter Try.func87, Try.ntmps87
      go_wp2
      go_ret
      exact ⟨ret_bool HT.out.symm, by (repeat (first | exact Below.refl _ _ | assumption | (refine Below.alloc ?_ (by first | omega | (simp; omega) | (simp; done)) _) | (refine Below.setCell ?_ (by first | omega | (simp; omega) | (simp; done)) _) | (refine Below.drew ?_) | (refine belowN ?_ _) | (refine Below.trans ?_ (Below.mono ‹Below _ _ _› (by first | omega | (simp; omega) | (simp; done))))))⟩
theorem ent_within1 : Ent 87 := ent_of Try.func87 (by kernel_rfl) rfl
set_option maxRecDepth 100000 in
set_option maxHeartbeats 1000000 in
theorem within_any (A : Option Addr) (c : Nat) (l : List Int) (n : Int) (w : World) (hl : l.length ≤ 1000000) (hr : Sl intCell 1 w w.heap.size A l) :
    Calls Try.prog 62 #[.slice A l.length c, .int .i64 n] w fun e w' => e = .returned (.int .i64 (inE n l)) ∧ Below w.heap.size w w' := by
  by_cases hlen : 400 < l.length
  · have HT : Hid (inE n l = 5) := (by show _ = _; unfold inE; rw [if_pos hlen] : _)
    have d2 : decide ((400 : Int) < (l.length : Int)) = true := by simp; omega
    have d1 : decide (400 < l.length) = true := by simp; omega
    clear hr hlen
    go_enter Try.func62, Try.ntmps62
    go_wp2
    go_ret
    exact ⟨ret_int HT.out.symm, by (repeat (first | exact Below.refl _ _ | assumption | (refine Below.alloc ?_ (by first | omega | (simp; omega) | (simp; done)) _) | (refine Below.setCell ?_ (by first | omega | (simp; omega) | (simp; done)) _) | (refine Below.drew ?_) | (refine belowN ?_ _) | (refine Below.trans ?_ (Below.mono ‹Below _ _ _› (by first | omega | (simp; omega) | (simp; done))))))⟩
  · have d2 : decide ((400 : Int) < (l.length : Int)) = false := by simp; omega
    have d1 : decide (400 < l.length) = false := by simp; omega
    by_cases hn : n < 1000000000000000
    · have d3 : decide (n < 1000000000000000) = true := by simpa using hn
      have HT : Hid (inE n l = if l.any (outB n) then 2 else 0) := (by
        show _ = _; unfold inE; rw [if_neg hlen]
        cases l.any (outB n) <;> simp [hn] : _)
      have HA := Lib.hid (fun W (hW : Below (w.heap.size + 1) (w.alloc (.cells #[.int .i64 n] 3)) W) => intsany_any 87 #[.pointer (some ⟨w.heap.size, 0, none⟩)] A c l (outB n) W ent_within1 hl
        (((hr.below ((Below.refl _ _).alloc (Nat.le_refl _) _)).below (hW.mono (by omega))).more (by have := hW.size; simp at this; omega))
        (fun t _ W2 hW2 => within1_any n t w.heap.size W2 (((Blk.new w _ _).below hW (by simp)).below hW2 (by have := hW.size; simp at this; omega))))
      obtain ⟨v, hv⟩ : ∃ v, v = l.any (outB n) := ⟨_, rfl⟩
      rw [← hv] at HA HT
      clear hr hlen hn hv
      cases v
      all_goals (
        go_enter Try.func62, Try.ntmps62
        go_wp2_with (go_at_call 84; refine (HA.out _ (by (repeat (first | exact Below.refl _ _ | assumption | (refine Below.alloc ?_ (by first | omega | (simp; omega) | (simp; done)) _) | (refine Below.setCell ?_ (by first | omega | (simp; omega) | (simp; done)) _) | (refine Below.drew ?_) | (refine belowN ?_ _) | (refine Below.trans ?_ (Below.mono ‹Below _ _ _› (by first | omega | (simp; omega) | (simp; done)))))))).mono ?_; rintro _ w1 ⟨rfl, hb1⟩)
        go_ret
        exact ⟨by rw [HT.out]; rfl, bl3 (Below.refl _ _) hb1⟩)
    · have d3 : decide (n < 1000000000000000) = false := by simpa using hn
      have HT : Hid (inE n l = 0) := (by show _ = _; unfold inE; rw [if_neg hlen, if_neg (fun h => hn h.1)] : _)
      clear hr hlen hn
      go_enter Try.func62, Try.ntmps62
      go_wp2
      go_ret
      exact ⟨ret_int HT.out.symm, by (repeat (first | exact Below.refl _ _ | assumption | (refine Below.alloc ?_ (by first | omega | (simp; omega) | (simp; done)) _) | (refine Below.setCell ?_ (by first | omega | (simp; omega) | (simp; done)) _) | (refine Below.drew ?_) | (refine belowN ?_ _) | (refine Below.trans ?_ (Below.mono ‹Below _ _ _› (by first | omega | (simp; omega) | (simp; done))))))⟩
/-- models and a register: the error -/
def outs0 : List HMd → Nat
  | [] => 0
  | m :: _ => m.outs
def modsB (ms : List HMd) : Bool := ms.all fun m => modB m && decide (m.outs = outs0 ms)
def limI (ms : List HMd) : Int := match ms with
  | [] => 1000000000000000
  | m :: _ => m.outs
def regsE (ms : List HMd) (l : List Int) : Int := if modsB ms = true then inE (limI ms) l else 2
theorem modsB_bad {ms : List HMd} {k : Nat} (hk : k < ms.length) (h : (modB ms[k] && decide (ms[k].outs = outs0 ms)) = false) : modsB ms = false := by
  rw [← Bool.not_eq_true]; intro h9
  have := List.all_eq_true.1 h9 ms[k] (List.getElem_mem hk)
  rw [h] at this; cases this
structure Mds (w : World) (B : Nat) (A : Option Addr) (ms : List Md) : Prop where
  top : Sl Md.cells 3 w B A ms
  each : ∀ x ∈ ms, x.reads w B
theorem Mds.below {w w' : World} {B : Nat} {A : Option Addr} {ms : List Md} (h : Mds w B A ms) (hb : Below B w w') : Mds w' B A ms := ⟨h.top.below hb, fun x hx => (h.each x hx).below hb⟩
theorem Mds.more {w : World} {B B' : Nat} {A : Option Addr} {ms : List Md} (h : Mds w B A ms) (hb : B ≤ B') : Mds w B' A ms := ⟨h.top.more hb, fun x hx => (h.each x hx).more hb⟩
theorem checkM_of (x : Md) (w : World) (hr : x.reads w w.heap.size) :
    Calls Try.prog 23 #[.agg #[.int .i64 x.kind, .slice x.a x.rows.length x.c, .int .i64 x.after]] w fun e w' => e = .returned (.int .i64 (modE x.m)) ∧ Below w.heap.size w w' := checkM_any x.kind x.a x.c x.rows x.after w hr
theorem outc_of (x : Md) (w : World) (hr : x.reads w w.heap.size) :
    Calls Try.prog 56 #[.agg #[.int .i64 x.kind, .slice x.a x.rows.length x.c, .int .i64 x.after]] w fun e w' => e = .returned (.int .i64 (x.m.outs : Int)) ∧ Below w.heap.size w w' := outc_any x.kind x.a x.c x.rows x.after w hr
set_option maxRecDepth 100000 in
set_option maxHeartbeats 4000000 in
theorem checkR_any (A : Option Addr) (c : Nat) (l : List Int) (A2 : Option Addr) (c2 : Nat) (ms : List Md) (w : World) (hl : l.length ≤ 1000000) (hm : ms.length ≤ 1000000) (hr : Sl intCell 1 w w.heap.size A l) (hs : Mds w w.heap.size A2 ms) :
    Calls Try.prog 40 #[.slice A l.length c, .slice A2 ms.length c2] w fun e w' => e = .returned (.int .i64 (regsE (ms.map Md.m) l)) ∧ Below w.heap.size w w' := by
  have HS := Lib.hid hs
  have HW := Lib.hid (fun n W (hW : Below w.heap.size w W) => within_any A c l n W hl ((hr.below hW).more hW.size))
  have HB : Hid (modsB (ms.map Md.m) = false → regsE (ms.map Md.m) l = 2) := fun h => by unfold regsE; rw [if_neg (by rw [h]; simp)]
  clear hs hr
  go_enter Try.func40, Try.ntmps40
  go_wp2
  go_loopw [10] (fun i wr => ∃ k : Nat, k ≤ ms.length ∧ i = .int .i64 k ∧ Below w.heap.size w wr ∧ Hid (∀ j, (hj : j < ms.length) → j < k → (modB ms[j].m && decide (ms[j].m.outs = outs0 (ms.map Md.m))) = true)) (fun i _ => ms.length - (intOf i).toNat)
  case atStart => exact ⟨0, by omega, rfl, Below.refl _ _, fun j _ h => by omega⟩
  case round =>
    obtain ⟨k, hk, rfl, hb, hno⟩ := hrel
    by_cases hlt : k < ms.length
    · have HSr := HS.out.below hb
      obtain ⟨ab, ao, rfl, hblk, hcell⟩ := HSr.top.at_ (k := k) (fun _ => rfl) hlt
      obtain ⟨ab', ao', e', hblk', hcell'⟩ := HSr.top.at_ (k := 0) (fun _ => rfl) (by omega : 0 < ms.length)
      obtain ⟨rfl, rfl⟩ : ab' = ab ∧ ao' = ao := (by injection e' with e'; injection e' with e1 e2; exact ⟨e1.symm, e2.symm⟩)
      have HK := Lib.hid (fun h => HB.out (modsB_bad (ms := ms.map Md.m) (k := k) (by simpa using hlt) (by simpa using h)))
      have HN := Lib.hid ((fun h => upto_succ (P := fun j => ∀ (hj : j < ms.length), (modB ms[j].m && decide (ms[j].m.outs = outs0 (ms.map Md.m))) = true) (k := k) (fun j hj hj' => hno.out j hj' hj) (fun _ => h)) : (modB ms[k].m && decide (ms[k].m.outs = outs0 (ms.map Md.m))) = true → Hid (∀ j, j < k + 1 → ∀ (hj : j < ms.length), (modB ms[j].m && decide (ms[j].m.outs = outs0 (ms.map Md.m))) = true))
      have ho0 : outs0 (ms.map Md.m) = ms[0].m.outs := (by cases ms with | nil => simp at hlt | cons x t => rfl)
      rw [ho0] at HK HN
      have HC := Lib.hid (fun W (hW : Below w.heap.size w W) => checkM_of ms[k] W (((HS.out.each _ (List.getElem_mem hlt)).below hW).more hW.size))
      have HO := Lib.hid (fun W (hW : Below w.heap.size w W) => outc_of ms[k] W (((HS.out.each _ (List.getElem_mem hlt)).below hW).more hW.size))
      have H0 := Lib.hid (fun W (hW : Below w.heap.size w W) => outc_of ms[0] W (((HS.out.each _ (List.getElem_mem (by omega : 0 < ms.length))).below hW).more hW.size))
      have c0 := hcell 0 _ rfl
      have c1 := hcell 1 _ rfl
      have c2' := hcell 2 _ rfl
      have c3 := hcell' 0 _ rfl
      have c4 := hcell' 1 _ rfl
      have c5 := hcell' 2 _ rfl
      simp only [Nat.zero_mul, Nat.zero_add, Nat.add_zero] at c0 c1 c2' c3 c4 c5
      obtain ⟨x, hx⟩ : ∃ x, x = ms[k] := ⟨_, rfl⟩
      rw [← hx] at HK HN HC HO c0 c1 c2'
      obtain ⟨y, hy⟩ : ∃ y, y = ms[0] := ⟨_, rfl⟩
      rw [← hy] at HK HN H0 c3 c4 c5 ho0
      have HY := Lib.hid ho0
      have hk0 : (0 : Int) ≤ (k : Int) := by omega
      have hpos : (0 : Int) < (ms.length : Int) := by omega
      have hk1 : (k : Int) < (ms.length : Int) := by omega
      have hz := hb.size
      have hbl : ab' < wr.heap.size := by omega
      clear hx hy hcell hcell' ho0 HSr HS e'
      by_cases hv : modB x.m = true
      · have hC2 : modE x.m = 0 := by unfold modE; rw [if_pos hv]
        rw [hC2] at HC
        clear hC2
        by_cases hq : x.m.outs = y.m.outs
        · have HNN := HN.out (by rw [hv, decide_eq_true hq]; rfl)
          have b1 : ((x.m.outs : Int) == (y.m.outs : Int)) = true := by simp; omega
          have b2 : (x.m.outs == y.m.outs) = true := by simp; omega
          clear hq hv HN HK
          go_wp2
          have hwr2 : Below w.heap.size w (wr.alloc (.cells #[.int .i64 x.kind, .slice x.a x.rows.length x.c, .int .i64 x.after] 25)) := hb.alloc hz _
          (refine wp_region_ext (by kernel_rfl) (by kernel_rfl) ?_; (repeat (go_big_quiet_step((first | (go_at_call 23; exact Calls.ext_of (HC.out _ (bl_ext0 hwr2 _))) | (go_at_call 56; with_reducible exact Calls.ext_of (HO.out _ (bl_ext0 hwr2 _))) | (go_at_call 56; with_reducible exact Calls.ext_of (H0.out _ (bl_ext0 hwr2 _))) | fail)))); with_reducible refine wpQuiet_nil ?_; intro w1 hw1; have hb1 := ext_below hw1; clear hw1)
          go_wp2
          go_roundw
          case rel => exact ⟨k + 1, by omega, by go_num, bl2 hwr2 hb1, fun j hj hj' => by rw [HY.out]; exact HNN.out j hj' hj⟩
          case measure => simp [intOf]; omega
        · have HE := Lib.hid (HK.out (fun _ => hq))
          have b1 : ((x.m.outs : Int) == (y.m.outs : Int)) = false := by simp; omega
          have b2 : (x.m.outs == y.m.outs) = false := by simp; omega
          clear hq hv HN HK
          go_wp2
          have hwr2 : Below w.heap.size w (wr.alloc (.cells #[.int .i64 x.kind, .slice x.a x.rows.length x.c, .int .i64 x.after] 25)) := hb.alloc hz _
          (refine wp_region_ext (by kernel_rfl) (by kernel_rfl) ?_; (repeat (go_big_quiet_step((first | (go_at_call 23; exact Calls.ext_of (HC.out _ (bl_ext0 hwr2 _))) | (go_at_call 56; with_reducible exact Calls.ext_of (HO.out _ (bl_ext0 hwr2 _))) | (go_at_call 56; with_reducible exact Calls.ext_of (H0.out _ (bl_ext0 hwr2 _))) | fail)))); with_reducible refine wpQuiet_nil ?_; intro w1 hw1; have hb1 := ext_below hw1; clear hw1)
          go_wp2
          go_ret
          exact ⟨ret_int HE.out.symm, bl2 hwr2 hb1⟩
      · have hC2 : modE x.m = 2 := by unfold modE; rw [if_neg hv]
        rw [hC2] at HC
        have HE := Lib.hid (HK.out (fun h => absurd h hv))
        clear hC2 hv HN HK
        go_wp2
        have hwr2 : Below w.heap.size w (wr.alloc (.cells #[.int .i64 x.kind, .slice x.a x.rows.length x.c, .int .i64 x.after] 25)) := hb.alloc hz _
        (refine wp_region_ext (by kernel_rfl) (by kernel_rfl) ?_; (repeat (go_big_quiet_step((first | (go_at_call 23; exact Calls.ext_of (HC.out _ (bl_ext0 hwr2 _))) | (go_at_call 56; with_reducible exact Calls.ext_of (HO.out _ (bl_ext0 hwr2 _))) | (go_at_call 56; with_reducible exact Calls.ext_of (H0.out _ (bl_ext0 hwr2 _))) | fail)))); with_reducible refine wpQuiet_nil ?_; intro w1 hw1; have hb1 := ext_below hw1; clear hw1)
        go_wp2
        go_ret
        exact ⟨ret_int HE.out.symm, bl2 hwr2 hb1⟩
    · obtain rfl : k = ms.length := by omega
      have HG : Hid (regsE (ms.map Md.m) l = inE (limI (ms.map Md.m)) l) := (by
        show _ = _; unfold regsE; rw [if_pos]; unfold modsB; rw [List.all_eq_true]; intro m hm
        obtain ⟨j, hj, rfl⟩ := List.mem_iff_getElem.1 hm
        rw [List.length_map] at hj
        have := hno.out j hj hj
        simpa using this : _)
      have hz := hb.size
      rcases Nat.eq_zero_or_pos ms.length with h0 | h0
      · obtain rfl := List.eq_nil_of_length_eq_zero h0
        have HT := Lib.hid (HW.out 1000000000000000 wr hb)
        obtain ⟨v, hv⟩ : ∃ v, v = inE 1000000000000000 l := ⟨_, rfl⟩
        have HG2 : Hid (regsE (([] : List Md).map Md.m) l = v) := (by show _ = _; rw [hv]; exact HG.out : _)
        rw [← hv] at HT
        clear h0 HG hv HW HB HS hno
        go_wp2_with (go_at_call 62; refine HT.out.mono ?_; rintro _ w1 ⟨rfl, hb1⟩)
        go_ret
        exact ⟨ret_int HG2.out.symm, bl2 hb hb1⟩
      · obtain ⟨ab, ao, rfl, hblk, hcell⟩ := (HS.out.below hb).top.at_ (k := 0) (fun _ => rfl) h0
        have H0 := Lib.hid (fun W (hW : Below w.heap.size w W) => outc_of ms[0] W (((HS.out.each _ (List.getElem_mem h0)).below hW).more hW.size))
        have c3 := hcell 0 _ rfl
        have c4 := hcell 1 _ rfl
        have c5 := hcell 2 _ rfl
        simp only [Nat.zero_mul, Nat.zero_add, Nat.add_zero] at c3 c4 c5
        obtain ⟨y, hy⟩ : ∃ y, y = ms[0] := ⟨_, rfl⟩
        have hlim : limI (ms.map Md.m) = (y.m.outs : Int) := (by rw [hy]; cases ms with | nil => simp at h0 | cons x t => rfl)
        rw [← hy] at H0 c3 c4 c5
        rw [hlim] at HG
        have hpos : (0 : Int) < (ms.length : Int) := by omega
        have d0 : decide ((0 : Int) < (ms.length : Int)) = true := by simpa using h0
        have d0' : decide (0 < ms.length) = true := by simpa using h0
        clear hy hcell hlim HS HB hno
        go_wp2_with (first | (go_at_call 56; refine (H0.out _ hb).mono ?_; rintro _ w1 ⟨rfl, hb1⟩; have hw1 := bl2 hb hb1) | (go_at_call 62; refine (HW.out _ _ hw1).mono ?_; rintro _ w2 ⟨rfl, hb2⟩) | fail)
        go_ret
        exact ⟨ret_int HG.out.symm, bl2 hw1 hb2⟩
end Go.Proofs.Ytiikkcifdhcejaa
namespace Go.Proofs.Ytiikkcifdhcejaa
open Go.RowKit

theorem gI_next {x y : Int} (hx : 0 ≤ x) (hy : 0 ≤ y) (h : y ≠ 0) : gI y (x % y) = gI x y ∧ 0 ≤ x % y ∧ x % y < y ∧ x % y ≤ x :=
  ⟨gI_step hx hy, Int.emod_nonneg _ h, Int.emod_lt_of_pos _ (by omega), by
    rcases Int.lt_or_le x y with h1 | h1
    · rw [Int.emod_eq_of_lt hx h1]; exact Int.le_refl _
    · have := Int.emod_lt_of_pos x (show 0 < y by omega); omega⟩
set_option maxHeartbeats 2000000 in
theorem gcd_any (A : Option Addr) (c : Nat) (l : List Int) (w : World) (hm : l.length ≤ 1000000) (hn : ∀ x ∈ l, 0 ≤ x ∧ x ≤ 1000000000000000) (hr : Sl intCell 1 w w.heap.size A l) :
    Calls Try.prog 67 #[.slice A l.length c] w fun e w' => e = .returned (.int .i64 (gL l)) ∧ Below w.heap.size w w' := by
  have HR := Lib.hid hr; have HN := Lib.hid hn
  clear hr hn
  go_enter Try.func67, Try.ntmps67
  go_wp2
  go_loopw [2, 4, 7] (fun v b i wr => ∃ k : Nat, k ≤ l.length ∧ i = .int .i64 k ∧ v = .int .i64 (gL (l.take k)) ∧ gL (l.take k) ≤ 1000000000000000 ∧ Below w.heap.size w wr) (fun _ _ i _ => l.length - (intOf i).toNat)
  case atStart => exact ⟨0, by omega, rfl, rfl, by simp [gL], Below.refl _ _⟩
  case round =>
    obtain ⟨k, hk, rfl, rfl, hg, hb⟩ := hrel
    by_cases hlt : k < l.length
    · obtain ⟨b, o, rfl, hbb, hc⟩ := (HR.out.below hb).int_at hlt
      have HS := Lib.hid (gL_take l k hlt)
      obtain ⟨y0, y1⟩ := HN.out _ (List.getElem_mem hlt)
      have g0 := gL_nonneg (l.take k)
      obtain ⟨s, hs'⟩ : ∃ s, s = gL (l.take k) := ⟨_, rfl⟩
      obtain ⟨x, hx⟩ : ∃ x, x = l[k] := ⟨_, rfl⟩
      rw [← hs'] at hg g0 HS ⊢
      rw [← hx] at hc HS y0 y1
      clear hs' hx
      go_wp2
      rename World => wo
      go_loopw [2, 4] (fun v b wr => ∃ p q : Int, 0 ≤ p ∧ 0 ≤ q ∧ p ≤ 1000000000000000 ∧ q ≤ 1000000000000000 ∧ v = .int .i64 p ∧ b = .int .i64 q ∧ Hid (gI p q = gI s x) ∧ Below w.heap.size w wr) (fun _ b _ => (intOf b).toNat)
      case atStart => exact ⟨s, x, g0, y0, hg, y1, rfl, rfl, rfl, hb⟩
      case round =>
        obtain ⟨p, q, p0, q0, p1, q1, rfl, rfl, HG, hb2⟩ := hrel
        by_cases hq : q = 0
        · subst hq
          have HP := Lib.hid (gI_zero p0)
          go_wp2
          go_roundw
          case rel => exact ⟨k + 1, by omega, by go_num, by rw [HS.out, ← HG.out, HP.out], by rw [HS.out, ← HG.out, HP.out]; exact p1, hb2⟩
          case measure => simp [intOf]; omega
        · have e0 : (q != 0) = true := by simpa using hq
          have e1 : (q == 0) = false := by simpa using hq
          obtain ⟨h1, h2, h3, h4⟩ := gI_next p0 q0 hq
          have H1 := Lib.hid h1
          clear h1
          go_wp2
          go_quiet (fail)
          go_wp2
          go_roundw
          case rel => exact ⟨q, p % q, q0, h2, q1, by omega, rfl, rfl, by rw [H1.out]; exact HG.out, belowN hb2 _⟩
          case measure => simp [intOf]; omega
    · obtain rfl : k = l.length := by omega
      have e := take_all_int l
      rw [e]; clear e
      go_wp2
      go_ret
      exact ⟨rfl, hb⟩
end Go.Proofs.Ytiikkcifdhcejaa
namespace Go.Proofs.Ytiikkcifdhcejaa
open Go.RowKit

theorem lowL_get {l : List Int} {k : Nat} (hk : k < l.length) : (lowL l)[k]'(by rw [lowL_len]; exact hk) = l[k] / gL l := by simp [lowL]
/-- a list behind k rounds: the first ones done, the others 0 -/
def doneL (l : List Int) (k : Nat) : List Int := l.take k ++ List.replicate (l.length - k) 0
theorem doneL_zero (l : List Int) : doneL l 0 = List.replicate l.length 0 := by simp [doneL]
theorem doneL_all (l : List Int) : doneL l l.length = l := by simp [doneL]
theorem doneL_len (l : List Int) {k : Nat} (h : k ≤ l.length) : (doneL l k).length = l.length := by simp [doneL]; omega
theorem doneL_succ (l : List Int) {k : Nat} (h : k < l.length) : (doneL l k).set k l[k] = doneL l (k + 1) := by
  unfold doneL
  rw [List.set_append_right _ _ (by simp; omega), take_snoc_int l k h, List.append_assoc]
  congr 1
  obtain ⟨d, hd⟩ : ∃ d, l.length - k = d + 1 := ⟨l.length - k - 1, by omega⟩
  rw [hd, show k - (l.take k).length = 0 by simp; omega, show l.length - (k + 1) = d by omega, List.replicate_succ]
  rfl
/-- a list in a block of its own, that is new, is returned -/
def RetLN (l : List Int) (w : World) (e : Ending) (w' : World) : Prop := ∃ b, e = .returned (.slice (some ⟨b, 0, none⟩) l.length l.length) ∧ Arr w' b l ∧ w.heap.size ≤ b ∧ Below w.heap.size w w'
theorem RetLN.of_arr {l : List Int} {w w' : World} {b n : Nat} (h : Arr w' b l) (hn : n = l.length) (h0 : w.heap.size ≤ b) (hb : Below w.heap.size w w') : RetLN l w (.returned (.slice (some ⟨b, 0, none⟩) n n)) w' := ⟨b, by rw [hn], h, h0, hb⟩
/-- the first error of some lists -/
def errsW : List LL → Int
  | [] => 0
  | x :: l => if errW x.l ≠ 0 then errW x.l else errsW l
theorem errsW_at {ls : List LL} {k : Nat} (hk : k < ls.length) (hb : ∀ x ∈ ls.take k, errW x.l = 0) (h : errW ls[k].l ≠ 0) : errsW ls = errW ls[k].l := by
  induction ls generalizing k with
  | nil => cases hk
  | cons x l ih =>
    cases k with
    | zero =>
      have h' : errW x.l ≠ 0 := h
      simp only [errsW]; rw [if_pos h']; rfl
    | succ k =>
      simp only [errsW]
      rw [if_neg (by simpa using hb x (by simp))]
      exact ih (by simpa using hk) (fun y hy => hb y (by simp [hy])) h
theorem errsW_zero : ∀ {ls : List LL}, (∀ x ∈ ls, errW x.l = 0) → errsW ls = 0
  | [], _ => rfl
  | x :: l, h => by simp only [errsW]; rw [if_neg (by simpa using h x (by simp))]; exact errsW_zero fun y hy => h y (by simp [hy])
theorem ne_errno {x : Int} {b : Bool} (h : (x != 0) = b) : (x != 0) = b := h
end Go.Proofs.Ytiikkcifdhcejaa
namespace Go.Proofs.Ytiikkcifdhcejaa
open Go.RowKit

theorem eq_drop (a b : List Int) (k : Nat) (h : k < a.length) (h' : k < b.length) : (a.drop k == b.drop k) = (a[k] == b[k] && a.drop (k + 1) == b.drop (k + 1)) := by
  rw [List.drop_eq_getElem_cons h, List.drop_eq_getElem_cons h']; rfl
theorem amongF_drop (n next : Int) (l : List Int) (k : Nat) (h : k < l.length) : amongF n next (l.drop k) = (decide (next ≤ l[k]) && decide (l[k] < n) && amongF n (l[k] + 1) (l.drop (k + 1))) := by
  rw [List.drop_eq_getElem_cons h]; rfl
/-- an integer and an error are returned -/
def Ret2 (a er : Int) (w : World) (e : Ending) (w' : World) : Prop := e = .returned (.tuple #[.int .i64 a, .int .i64 er]) ∧ Below w.heap.size w w'
def totalR (l : List Int) : Int × Int := if errW l = 0 then (sumL l, 0) else (0, errW l)
def lowestR (l : List Int) : List Int × Int := if errW l = 0 then (lowL l, 0) else ([], errW l)
end Go.Proofs.Ytiikkcifdhcejaa
namespace Go.Proofs.Ytiikkcifdhcejaa
open Go.RowKit

theorem keepL_take {w o : List Int} {k : Nat} (hk : k < o.length) (_h0 : 0 ≤ o[k]) (h1 : o[k].toNat < w.length) : keepF w (List.replicate w.length 0) (o.take (k + 1)) = (keepF w (List.replicate w.length 0) (o.take k)).set o[k].toNat w[o[k].toNat] := by
  rw [take_snoc_int o k hk, keepF_snoc]; congr 1; simp [h1]
/-- a chance is returned -/
def RetC1 (n d : Int) (w : World) (e : Ending) (w' : World) : Prop := e = .returned (.agg #[.int .i64 n, .int .i64 d]) ∧ Below w.heap.size w w'
def RetC (x : Int × Int × Int) (w : World) (e : Ending) (w' : World) : Prop := e = .returned (.tuple #[.agg #[.int .i64 x.1, .int .i64 x.2.1], .int .i64 x.2.2]) ∧ Below w.heap.size w w'
theorem gL_two {n d : Int} (hn : 0 ≤ n) : gL [n, d] = gI n d := by simp [gL, gI_zero_left hn]
set_option maxRecDepth 100000 in
theorem gcd2_any (n d : Int) (W : World) (b : Nat) (h0 : b = W.heap.size) (hn : 0 ≤ n) (hd : 0 ≤ d) (hn' : n ≤ 1000000000000000) (hd' : d ≤ 1000000000000000) :
    Calls Try.prog 67 #[.slice (some ⟨b, 0, none⟩) 2 2] (W.alloc (.cells #[.int .i64 n, .int .i64 d] 3)) fun e w' => e = .returned (.int .i64 (gI n d)) ∧ Below W.heap.size W w' := by
  subst h0
  have h := gcd_any (some ⟨W.heap.size, 0, none⟩) 2 [n, d] (W.alloc (.cells #[.int .i64 n, .int .i64 d] 3)) (by simp) (by simp; omega) (sl_one (Blk.new W _ _) rfl rfl)
  rw [gL_two hn] at h
  exact h.mono fun _ _ ⟨h1, h2⟩ => ⟨h1, bl3 (Below.refl _ _) h2⟩
set_option maxRecDepth 100000 in
set_option maxHeartbeats 1000000 in
theorem ratio_any (n d : Int) (w : World) (hn : 0 ≤ n) (hd : 0 < d) (hn' : n ≤ 1000000000000000) (hd' : d ≤ 1000000000000000) : Calls Try.prog 86 #[.int .i64 n, .int .i64 d] w (RetC1 (ratN n d) (ratD n d) w) := by
  have HG := Lib.hid (fun W b h => gcd2_any n d W b h hn (by omega) hn' hd')
  have g0 := gI_pos (a := n) (b := d) (.inr hd)
  have g1 := gI_le_right n hd
  have HN : Hid (ratN n d = n / gI n d) := (rfl : ratN n d = _)
  have HD : Hid (ratD n d = d / gI n d) := (rfl : ratD n d = _)
  obtain ⟨g, hg⟩ : ∃ g, g = gI n d := ⟨_, rfl⟩
  rw [← hg] at g0 g1 HN HD
  rw [← hg] at HG
  clear hg
  go_enter Try.func86, Try.ntmps86
  go_wp2_with (go_at_call 67; refine (HG.out _ _ (by simp)).mono ?_; rintro _ w1 ⟨rfl, hb1⟩; have gR : Blk w1 w.heap.size #[.int .i64 0, .int .i64 0] 27 := (Blk.at_ rfl).below hb1 (by simp))
  have hz := gR.lt
  have c0 := gR.cell 0; have c1 := gR.cell 1
  have f0 := gR.free 0; have f1 := gR.free 1
  simp at c0 c1
  go_region
  all_goals (
    go_wp2
    refine gen_w (fun W => Blk W w.heap.size #[.int .i64 (n / g), .int .i64 (d / g)] 27 ∧ Below w.heap.size w W) ⟨by have := (gR.set 0 (.int .i64 (n / g))).set 1 (.int .i64 (d / g)); simp at this; exact this, by (repeat (first | exact Below.refl _ _ | assumption | (refine Below.alloc ?_ (by first | omega | (simp; omega) | (simp; done)) _) | (refine Below.setCell ?_ (by first | omega | (simp; omega) | (simp; done)) _) | (refine Below.drew ?_) | (refine belowN ?_ _) | (refine Below.trans ?_ (Below.mono ‹Below _ _ _› (by first | omega | (simp; omega) | (simp; done))))))⟩ ?_
    rintro W ⟨gW, hW⟩
    have q0 := gW.cell 0; have q1 := gW.cell 1
    simp at q0 q1
    exact bodyPost_ret (v := .agg #[.int .i64 (n / g), .int .i64 (d / g)]) (by simp [results, Try.results86, go_sem, q0, q1]) rfl ⟨by rw [HN.out, HD.out], hW⟩)
theorem retC_zero {er : Int} {w w' : World} (h : Below w.heap.size w w') : RetC (0, 0, er) w (.returned (.tuple #[.agg #[.int .i64 0, .int .i64 0], .int .i64 er])) w' := ⟨rfl, h⟩
end Go.Proofs.Ytiikkcifdhcejaa
namespace Go.Proofs.Ytiikkcifdhcejaa
open Go.RowKit

theorem blk_drewN {W : World} {b : Nat} {cs : Array Value} {t : TypeId} (h : Blk W b cs t) (n : Nat) : Blk (W.drewN n) b cs t := h
set_option maxRecDepth 100000 in
set_option maxHeartbeats 4000000 in
theorem chanS_any (x s : Int) (w : World) (h0 : 0 ≤ x) (h1 : 0 < s) (h2 : x ≤ 4000000000000000000) (h3 : s ≤ 4000000000000000000) :
    Calls Try.prog 45 #[.agg #[.int .i64 x, .int .i64 s]] w (RetC1 (ratN x s) (ratD x s) w) := by
  have g0 := gI_pos (a := x) (b := s) (.inr h1)
  have g1 := gI_le_right x h1
  have HN : Hid (ratN x s = x / gI x s) := (rfl : ratN x s = _)
  have HD : Hid (ratD x s = s / gI x s) := (rfl : ratD x s = _)
  have HC := Lib.hid (gI_comm x s)
  go_enter Try.func45, Try.ntmps45
  go_wp2
  go_quiet (fail)
  go_wp2
  refine gen_w (fun W => Blk W w.heap.size #[.int .i64 x, .int .i64 s] 87 ∧ Blk W (w.heap.size + 1) #[.int .i64 0, .int .i64 0] 27 ∧ Below w.heap.size w W) ⟨?_, ?_, by (repeat (first | exact Below.refl _ _ | assumption | (refine Below.alloc ?_ (by first | omega | (simp; omega) | (simp; done)) _) | (refine Below.setCell ?_ (by first | omega | (simp; omega) | (simp; done)) _) | (refine Below.drew ?_) | (refine belowN ?_ _) | (refine Below.trans ?_ (Below.mono ‹Below _ _ _› (by first | omega | (simp; omega) | (simp; done))))))⟩ ?_
  · refine blk_drewN (n := _) ?_
    exact (Blk.new w _ _).alloc _
  · refine blk_drewN (n := _) ?_
    exact Blk.at_ (by simp)
  rintro W0 ⟨gs, gc, hb⟩
  go_loopw [3, 4] (fun v b wr => ∃ p q : Int, 0 ≤ p ∧ 0 ≤ q ∧ p ≤ 4000000000000000000 ∧ q ≤ 4000000000000000000 ∧ v = .int .i64 p ∧ b = .int .i64 q ∧ Hid (gI p q = gI x s) ∧ Hid (Blk wr w.heap.size #[.int .i64 x, .int .i64 s] 87) ∧ Hid (Blk wr (w.heap.size + 1) #[.int .i64 0, .int .i64 0] 27) ∧ Below w.heap.size w wr) (fun _ b _ => (intOf b).toNat)
  case atStart => exact ⟨s, x, by omega, h0, h3, h2, rfl, rfl, HC.out.symm, gs, gc, hb⟩
  case round =>
    obtain ⟨p, q, p0, q0, p1, q1, rfl, rfl, HG, gs1, gc1, hb2⟩ := hrel
    by_cases hq : q = 0
    · subst hq
      have HP := Lib.hid ((gI_zero p0).symm.trans HG.out)
      obtain ⟨g, hg⟩ : ∃ g, g = gI x s := ⟨_, rfl⟩
      rw [← hg] at g0 g1 HN HD HP
      have hpg : p = g := HP.out
      subst hpg
      clear HP HG HC hg gs gc
      have c0 := gs1.out.cell 0; have c1 := gs1.out.cell 1
      have d0 := gc1.out.cell 0; have d1 := gc1.out.cell 1
      have f0 := gc1.out.free 0; have f1 := gc1.out.free 1
      simp at c0 c1 d0 d1
      have hz1 := gc1.out.lt
      have g2 := gc1.out
      have hneg : (p == 0) = false := by simp; omega
      go_wp2
      go_region
      all_goals (
        go_wp2
        refine gen_w (fun W => Blk W (w.heap.size + 1) #[.int .i64 (x / p), .int .i64 (s / p)] 27 ∧ Below w.heap.size w W) ⟨by have := (g2.set 0 (.int .i64 (x / p))).set 1 (.int .i64 (s / p)); simp at this; exact this, by (repeat (first | exact Below.refl _ _ | assumption | (refine Below.alloc ?_ (by first | omega | (simp; omega) | (simp; done)) _) | (refine Below.setCell ?_ (by first | omega | (simp; omega) | (simp; done)) _) | (refine Below.drew ?_) | (refine belowN ?_ _) | (refine Below.trans ?_ (Below.mono ‹Below _ _ _› (by first | omega | (simp; omega) | (simp; done))))))⟩ ?_
        rintro W ⟨gW, hW⟩
        have q0 := gW.cell 0; have q1 := gW.cell 1
        simp at q0 q1
        exact bodyPost_ret (v := .agg #[.int .i64 (x / p), .int .i64 (s / p)]) (by simp [results, Try.results45, go_sem, q0, q1]) rfl ⟨by rw [HN.out, HD.out], hW⟩)
    · have e0 : (q != 0) = true := by simpa using hq
      have e1 : (q == 0) = false := by simpa using hq
      obtain ⟨h1, h2, h3, h4⟩ := gI_next p0 q0 hq
      have H1 := Lib.hid h1
      clear h1
      go_wp2
      go_quiet (fail)
      go_wp2
      go_roundw
      case rel => exact ⟨q, p % q, q0, h2, q1, by omega, rfl, rfl, by rw [H1.out]; exact HG.out, blk_drewN gs1.out _, blk_drewN gc1.out _, belowN hb2 _⟩
      case measure => simp [intOf]; omega
end Go.Proofs.Ytiikkcifdhcejaa
namespace Go.Proofs.Ytiikkcifdhcejaa
open Go.RowKit

theorem tabN {i : Int} (h : 0 ≤ i) (h' : i < 256) (hs : i.toNat < Lib.len8tab.size) : ((Lib.len8tab[i.toNat]'hs).toNat : Int) = (Lib.bitLen i.toNat : Int) := by
  rw [← Lib.len8_of i h (by omega)]
  unfold Lib.len8
  rw [getElem?_pos Lib.len8tab i.toNat hs]
  rfl
theorem tabS {i x : Int} (n : Nat) {k : Nat} {hs : i.toNat < Lib.len8tab.size} (h : 0 ≤ i) (h' : i < 256) (e : i.toNat = x.toNat / k) (s : Lib.bitLen x.toNat = n + Lib.bitLen (x.toNat / k)) (hn : n ≤ 56 := by omega) :
    wrap64 ((n : Int) + wrap64 ((Lib.len8tab[i.toNat]'hs).toNat : Int)) = (Lib.bitLen x.toNat : Int) := by
  rw [tabN h h' hs]
  have l := Lib.bitLen_le8' i h (by omega)
  rw [s, ← e]
  unfold wrap64
  omega
theorem tabS0 {x : Int} {hs : x.toNat < Lib.len8tab.size} (h : 0 ≤ x) (h' : x < 256) : wrap64 (wrap64 ((Lib.len8tab[x.toNat]'hs).toNat : Int)) = (Lib.bitLen x.toNat : Int) := by
  rw [tabN h h' hs]
  have l := Lib.bitLen_le8' x h (by omega)
  unfold wrap64
  omega
set_option maxHeartbeats 4000000 in
set_option maxRecDepth 100000 in
theorem len64_any (x : Int) (w : World) (h0 : 0 ≤ x) (h1 : x ≤ 18446744073709551615) :
    Calls Try.prog 106 #[.int .u64 x] w fun e w' => e = .returned (.int .i64 (Lib.bitLen x.toNat)) ∧ w' = w := by
  have hsz := Lib.len8tab_size
  go_enter Try.func106, Try.ntmps106
  go_wp2
  all_goals (go_ret; refine ⟨congrArg Ending.returned (congrArg (Value.int IntKind.i64) ?_), rfl⟩)
  all_goals first
    | exact tabS (i := x / 4294967296 / 65536 / 256) 56 (by omega) (by omega) (show (x / 4294967296 / 65536 / 256).toNat = x.toNat / 72057594037927936 by omega) (Lib.bitLen_shift56 x.toNat (by omega) (by omega))
    | exact tabS (i := x / 4294967296 / 65536) 48 (by omega) (by omega) (show (x / 4294967296 / 65536).toNat = x.toNat / 281474976710656 by omega) (Lib.bitLen_shift48 x.toNat (by omega) (by omega))
    | exact tabS (i := x / 4294967296 / 256) 40 (by omega) (by omega) (show (x / 4294967296 / 256).toNat = x.toNat / 1099511627776 by omega) (Lib.bitLen_shift40 x.toNat (by omega) (by omega))
    | exact tabS (i := x / 4294967296) 32 (by omega) (by omega) (show (x / 4294967296).toNat = x.toNat / 4294967296 by omega) (Lib.bitLen_shift32 x.toNat (by omega) (by omega))
    | exact tabS (i := x / 65536 / 256) 24 (by omega) (by omega) (show (x / 65536 / 256).toNat = x.toNat / 16777216 by omega) (Lib.bitLen_shift24 x.toNat (by omega) (by omega))
    | exact tabS (i := x / 65536) 16 (by omega) (by omega) (show (x / 65536).toNat = x.toNat / 65536 by omega) (Lib.bitLen_shift16 x.toNat (by omega) (by omega))
    | exact tabS (i := x / 256) 8 (by omega) (by omega) (show (x / 256).toNat = x.toNat / 256 by omega) (Lib.bitLen_shift8 x.toNat (by omega) (by omega))
    | exact tabS0 (by omega) (by omega)
theorem bitLen_le64 (x : Int) (h0 : 0 ≤ x) (h1 : x ≤ 18446744073709551615) : Lib.bitLen x.toNat ≤ 64 := Lib.bitLen_le x.toNat 64 (by omega) (by omega)

theorem lz64_any (x : Int) (w : World) (h0 : 0 ≤ x) (h1 : x ≤ 18446744073709551615) :
    Calls Try.prog 102 #[.int .u64 x] w fun e w' => e = .returned (.int .i64 (64 - (Lib.bitLen x.toNat : Int))) ∧ w' = w := by
  have l := bitLen_le64 x h0 h1
  have e8 : (64 - (Lib.bitLen x.toNat : Int) + 9223372036854775808) % 18446744073709551616 - 9223372036854775808 = 64 - (Lib.bitLen x.toNat : Int) := by omega
  go_enter Try.func102, Try.ntmps102
  go_wp2_with (go_at_call 106; refine (len64_any x _ h0 h1).mono ?_; rintro e w' ⟨rfl, rfl⟩)
  go_ret
  refine ⟨?_, rfl⟩
  rw [← e8]
  rfl

end Go.Proofs.Ytiikkcifdhcejaa

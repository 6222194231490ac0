/- School: say, kind, list. -/
import Derived.Test.YtidlmbajpbbilaaZ03ScH
namespace Go.Proofs.Ytidlmbajpbbilaa
open Go.RowKit

def sys (s : Sch) (i : Nat) : Nat := match s.rules[i]? with | some r => r.says.toNat | none => 0
/-- what the rules below n of a set say -/
def saidTo (s : Sch) (L : Nat) : Nat → Nat → Bool
  | 0, _ => false
  | n + 1, a => saidTo s L n a || (L.testBit n && a == sys s n)
theorem saidTo_yes {s : Sch} {L n m : Nat} (h : L.testBit n = true) (hs : sys s n < m) : bset (saidTo s L n) m ||| 2 ^ sys s n = bset (saidTo s L (n + 1)) m := by
  rw [bset_add hs]; exact bset_congr fun i _ => by simp [saidTo, h]
theorem saidTo_no {s : Sch} {L n m : Nat} (h : L.testBit n = false) : bset (saidTo s L (n + 1)) m = bset (saidTo s L n) m := bset_congr fun i _ => by simp [saidTo, h]

set_option maxRecDepth 100000 in
set_option maxHeartbeats 1000000 in
theorem say_any (s : Sch) (R : Value) (hR : R = s.rv) (out : Int) (L : Nat) (hL : L < 4294967296) (w : World) (hr : s.reads w w.heap.size) (hv : Valid s) :
    Calls Try.prog 55 #[rdv s R out, .int .u32 (L : Int)] w fun e w' => e = .returned (.int .u32 ((bset (saidTo s L s.rules.length) 20 : Nat) : Int)) ∧ Below w.heap.size w w' := by
  obtain ⟨hr0, hl', hrr⟩ := hr
  have hlen := hv.len
  have HS : ∀ j, (h : j < s.rules.length) → Hid (sys s j = (s.rules[j]).says.toNat ∧ 0 ≤ s.rules[j].says ∧ s.rules[j].says < 20) := fun j h =>
    (by have h1 := (hv.rule j h).says; have h2 := hv.answers; exact ⟨by simp [sys, List.getElem?_eq_getElem h], by omega, by omega⟩ : sys s j = (s.rules[j]).says.toNat ∧ 0 ≤ s.rules[j].says ∧ s.rules[j].says < 20)
  clear hrr hv
  obtain ⟨pl, sg, k, a, ra, rc, rs⟩ := s
  obtain ⟨S, hS⟩ : ∃ S : Sch, S = ⟨pl, sg, k, a, ra, rc, rs⟩ := ⟨_, rfl⟩
  have HS' : ∀ j, (h : j < rs.length) → Hid (sys S j = (rs[j]).says.toNat ∧ 0 ≤ rs[j].says ∧ rs[j].says < 20) := by rw [hS]; exact HS
  simp only at *
  subst hR
  rw [← hS]
  have hSr : S.rules = rs := by rw [hS]
  have HR0 := Lib.hid hr0
  obtain ⟨m, hm⟩ : ∃ m, m = rs.length := ⟨_, rfl⟩
  have HM := Lib.hid hm
  have HSS := Lib.hid HS'
  have hrd : rdv S S.rv out = .agg #[.int .i64 pl, .int .i64 sg, .int .i64 k, .int .i64 a, .slice ra m rc, .int .u32 out] := by rw [hS, hm]
  rw [hrd, ← hm]
  rw [← hm] at hlen
  clear hrd hm hSr HS HS' hr0 hS hl'
  go_enter Try.func55, Try.ntmps55
  go_wp2
  go_loopw [4, 11] (fun v i wr => ∃ j : Nat, j ≤ m ∧ i = .int .i64 j ∧ v = .int .u32 ((bset (saidTo S L j) 20 : Nat) : Int) ∧ Below w.heap.size w wr) (fun _ i _ => m - (intOf i).toNat)
  case atStart => exact ⟨0, by omega, rfl, by rw [show saidTo S L 0 = fun _ => false from rfl, bset_zero]; rfl, by (repeat (first | exact Below.refl _ _ | assumption | (refine Below.alloc ?_ (by first | omega | (simp; omega) | (simp; done)) _) | (refine Below.setCell ?_ (by first | omega | (simp; omega) | (simp; done)) _) | (refine Below.drew ?_) | (refine belowN ?_ _) | (refine Below.trans ?_ (Below.mono ‹Below _ _ _› (by first | omega | (simp; omega) | (simp; done))))))⟩
  case round =>
    obtain ⟨j, hj, rfl, rfl, hb⟩ := hrel
    have hsz := hb.size
    by_cases hlt : j < m
    · have hlt2 : j < rs.length := HM.out ▸ hlt
      obtain ⟨ab, ao, rfl, hblk, hcell⟩ := (Sl.below HR0.out hb).at_ (k := j) (fun _ => rfl) hlt2
      obtain ⟨hs1, hs2, hs3⟩ := (HSS.out j hlt2).out
      obtain ⟨r, hr⟩ : ∃ t, rs[j] = t := ⟨_, rfl⟩
      rw [hr] at hcell hs1 hs2 hs3
      have c0 : wr.cell? ⟨ab, ao + j * 5, none⟩ = some (.slice r.wa r.when_.length r.wc) := hcell 0 _ rfl
      have c1 : wr.cell? ⟨ab, ao + j * 5 + 1, none⟩ = some (.int .i64 r.kinds) := hcell 1 _ rfl
      have c2 : wr.cell? ⟨ab, ao + j * 5 + 2, none⟩ = some (.int .i64 r.rank) := hcell 2 _ rfl
      have c3 : wr.cell? ⟨ab, ao + j * 5 + 3, none⟩ = some (.slice r.ua r.unless_.length r.uc) := hcell 3 _ rfl
      have c4 : wr.cell? ⟨ab, ao + j * 5 + 4, none⟩ = some (.int .i64 r.says) := hcell 4 _ rfl
      obtain ⟨y, hy⟩ := Int.eq_ofNat_of_zero_le hs2
      have hV := bset_lt (saidTo S L j) 20
      obtain ⟨V, hVe⟩ : ∃ V, V = bset (saidTo S L j) 20 := ⟨_, rfl⟩
      rw [← hVe] at hV ⊢
      have hyl : y < 20 := by omega
      have HY : Hid (sys S j = y) := (by rw [hs1, hy]; rfl : sys S j = y)
      rw [hy] at c4
      have q1 := u32bit L j hL
      have hp20 : (2 : Nat) ^ y ≤ 2147483648 := pow_le_bset (by omega)
      have HVV := Lib.hid hVe
      clear hcell hr hs1 hs2 hs3 hy hVe
      by_cases hbit : L.testBit j = true
      · have e1 : L / 2 ^ j % 2 = 1 := by rw [Nat.testBit_eq_decide_div_mod_eq] at hbit; simpa using hbit
        rw [e1] at q1
        have q2 : bits BinOp.or IntKind.u32 (V : Int) (2 ^ y % 4294967296) = ((V ||| 2 ^ y : Nat) : Int) := by
          rw [pow_mod32 y (by omega)]; exact u32or V (2 ^ y) (by omega) (by omega)
        have HB := Lib.hid hbit
        clear hbit e1
        go_wp2
        go_quiet (fail)
        go_wp2
        go_roundw
        case rel => exact ⟨j + 1, by omega, by go_num, by rw [← saidTo_yes HB.out (by rw [HY.out]; exact hyl), HVV.out, HY.out], by (repeat (first | exact Below.refl _ _ | assumption | (refine Below.alloc ?_ (by first | omega | (simp; omega) | (simp; done)) _) | (refine Below.setCell ?_ (by first | omega | (simp; omega) | (simp; done)) _) | (refine Below.drew ?_) | (refine belowN ?_ _) | (refine Below.trans ?_ (Below.mono ‹Below _ _ _› (by first | omega | (simp; omega) | (simp; done))))))⟩
        case measure => simp [intOf]; omega
      · have e1 : L / 2 ^ j % 2 = 0 := by rw [Nat.testBit_eq_decide_div_mod_eq] at hbit; simp at hbit; omega
        rw [e1] at q1
        have q2 : bits BinOp.or IntKind.u32 (V : Int) 0 = (V : Int) := by have := u32or V 0 (by omega) (by omega); simpa using this
        simp only [Bool.not_eq_true] at hbit
        have HB := Lib.hid hbit
        clear hbit e1
        go_wp2
        go_quiet (fail)
        go_wp2
        go_roundw
        case rel => exact ⟨j + 1, by omega, by go_num, by rw [saidTo_no HB.out, HVV.out], by (repeat (first | exact Below.refl _ _ | assumption | (refine Below.alloc ?_ (by first | omega | (simp; omega) | (simp; done)) _) | (refine Below.setCell ?_ (by first | omega | (simp; omega) | (simp; done)) _) | (refine Below.drew ?_) | (refine belowN ?_ _) | (refine Below.trans ?_ (Below.mono ‹Below _ _ _› (by first | omega | (simp; omega) | (simp; done))))))⟩
        case measure => simp [intOf]; omega
    · obtain rfl : j = m := by omega
      go_wp2
      go_ret
      exact ⟨rfl, hb⟩

theorem pop8_nat (b : Nat) (h : b ≤ 255) : Lib.pop8 (b : Int) = (Lib.onesCount b : Int) ∧ Lib.onesCount b ≤ 8 :=
  ⟨Lib.pop8_eq ⟨b, by omega⟩, Lib.onesCount_le8 ⟨b, by omega⟩⟩
theorem mask255 (a : Nat) (ha : a < 4294967296) : bits BinOp.and IntKind.u32 (a : Int) 255 = ((a % 256 : Nat) : Int) := by
  have := u32_and_nat a 255 ha (by omega)
  rw [nat_mask8] at this; exact this
set_option maxRecDepth 100000 in
set_option maxHeartbeats 1000000 in
theorem ones_any (x : Nat) (hx : x < 1048576) (w : World) : Calls Try.prog 88 #[.int .u32 (x : Int)] w fun e w' => e = .returned (.int .i64 (Lib.onesCount (x / 65536) + Lib.onesCount (x / 256 % 256) + Lib.onesCount (x % 256) : Nat)) ∧ Below w.heap.size w w' := by
  have k0 : (x : Int) / 16777216 = ((0 : Nat) : Int) := by omega
  have e1 : (x : Int) / 65536 = ((x / 65536 : Nat) : Int) := by omega
  have e2 : (x : Int) / 256 = ((x / 256 : Nat) : Int) := by omega
  have m1 : bits BinOp.and IntKind.u32 ((x : Int) / 65536) 255 = ((x / 65536 : Nat) : Int) := by
    rw [e1, mask255 _ (by omega), Nat.mod_eq_of_lt (by omega)]
  have m2 : bits BinOp.and IntKind.u32 ((x : Int) / 256) 255 = ((x / 256 % 256 : Nat) : Int) := by rw [e2, mask255 _ (by omega)]
  have m3 : bits BinOp.and IntKind.u32 (x : Int) 255 = ((x % 256 : Nat) : Int) := mask255 x (by omega)
  obtain ⟨p0, q0⟩ := pop8_nat 0 (by omega)
  obtain ⟨p1, q1⟩ := pop8_nat (x / 65536) (by omega)
  obtain ⟨p2, q2⟩ := pop8_nat (x / 256 % 256) (by omega)
  obtain ⟨p3, q3⟩ := pop8_nat (x % 256) (by omega)
  have z0 : Lib.onesCount 0 = 0 := by decide
  have p00 : Lib.pop8 0 = 0 := by rw [z0] at p0; exact p0
  clear p0
  obtain ⟨a, ha⟩ : ∃ a, a = x / 65536 := ⟨_, rfl⟩
  obtain ⟨b, hb⟩ : ∃ a, a = x / 256 % 256 := ⟨_, rfl⟩
  obtain ⟨c, hc⟩ : ∃ a, a = x % 256 := ⟨_, rfl⟩
  have la : a ≤ 255 := by omega
  have lb : b ≤ 255 := by omega
  have lc : c ≤ 255 := by omega
  rw [← ha] at m1 p1 q1 ⊢
  rw [← hb] at m2 p2 q2 ⊢
  rw [← hc] at m3 p3 q3 ⊢
  obtain ⟨oa, hoa⟩ : ∃ y, y = Lib.onesCount a := ⟨_, rfl⟩
  obtain ⟨ob, hob⟩ : ∃ y, y = Lib.onesCount b := ⟨_, rfl⟩
  obtain ⟨oc, hoc⟩ : ∃ y, y = Lib.onesCount c := ⟨_, rfl⟩
  rw [← hoa] at p1 q1 ⊢
  rw [← hob] at p2 q2 ⊢
  rw [← hoc] at p3 q3 ⊢
  have la' : (a : Int) ≤ 255 := by omega
  have lb' : (b : Int) ≤ 255 := by omega
  have lc' : (c : Int) ≤ 255 := by omega
  clear e1 e2 z0 q0 ha hb hc hoa hob hoc
  go_enter Try.func88, Try.ntmps88
  go_wp2
  go_quiet (fail)
  go_wp2
  go_ret
  exact ⟨ret_int (by omega), by (repeat (first | exact Below.refl _ _ | assumption | (refine Below.alloc ?_ (by first | omega | (simp; omega) | (simp; done)) _) | (refine Below.setCell ?_ (by first | omega | (simp; omega) | (simp; done)) _) | (refine Below.drew ?_) | (refine belowN ?_ _) | (refine Below.trans ?_ (Below.mono ‹Below _ _ _› (by first | omega | (simp; omega) | (simp; done))))))⟩

/-- the kind of a reading with these answers -/
def kindOf (l : List Nat) : Int := if l.length = 0 then 2 else if l.length = 1 then 1 else 3
theorem kind_any (p : Nat → Bool) (w : World) : Calls Try.prog 58 #[.int .u32 ((bset p 20 : Nat) : Int)] w fun e w' => e = .returned (.int .i64 (kindOf ((List.range 20).filter p))) ∧ Below w.heap.size w w' := by
  have hx := bset_lt p 20
  have HO := Lib.hid (ones_any (bset p 20) (by simpa using hx) w)
  have he := ones_24 (bset p 20) (by simpa using hx)
  rw [he, pop_bset p 20 24 (by omega)] at HO
  obtain ⟨l, hl⟩ : ∃ l, l = (List.range 20).filter p := ⟨_, rfl⟩
  rw [← hl] at HO ⊢
  obtain ⟨x, hx⟩ : ∃ x, x = bset p 20 := ⟨_, rfl⟩
  rw [← hx] at HO ⊢
  clear he hx hl
  have FIN : ∀ (v : Int), v = kindOf l → ∀ w', Below w.heap.size w w' → (Ending.returned (.int .i64 v) = .returned (.int .i64 (kindOf l)) ∧ Below w.heap.size w w') := fun v h w' hb => ⟨by rw [h], hb⟩
  obtain ⟨K, hK⟩ : ∃ K, K = kindOf l := ⟨_, rfl⟩
  have HK := Lib.hid hK
  obtain ⟨L, hL⟩ : ∃ L, L = l.length := ⟨_, rfl⟩
  have HL := Lib.hid hL
  rw [← hK]
  rw [← hL] at HO
  clear hK hL FIN
  rcases Nat.lt_trichotomy L 1 with h | h | h
  · have h0 : L = 0 := by omega
    subst h0
    go_enter Try.func58, Try.ntmps58
    go_wp2_with fail
    refine HO.out.mono ?_
    rintro e w1 ⟨rfl, hb⟩
    go_wp2
    go_ret
    exact ⟨ret_int (by rw [HK.out]; simp [kindOf, ← HL.out]), hb⟩
  · subst h
    go_enter Try.func58, Try.ntmps58
    go_wp2_with fail
    refine HO.out.mono ?_
    rintro e w1 ⟨rfl, hb⟩
    go_wp2
    go_ret
    exact ⟨ret_int (by rw [HK.out]; simp [kindOf, ← HL.out]), hb⟩
  · have d1 : ((L : Int) == 0) = false := by simp; omega
    have d2 : ((L : Int) == 1) = false := by simp; omega
    have d3 : ¬ L = 0 := by omega
    have d4 : ¬ L = 1 := by omega
    go_enter Try.func58, Try.ntmps58
    go_wp2_with fail
    refine HO.out.mono ?_
    rintro e w1 ⟨rfl, hb⟩
    go_wp2
    go_ret
    exact ⟨ret_int (by rw [HK.out, kindOf, ← HL.out, if_neg d3, if_neg d4]), hb⟩

theorem infoInt : (Try.prog.info? 3).map (fun i => (i.zero, i.size, i.bytes)) = some (some (.int .i64 0), 1, 8) := by kernel_rfl
theorem uInts : Try.prog.underlying 28 = some (.slice 3) := by kernel_rfl
/-- the bits of V below k, ascending -/
def upBits (V k : Nat) : List Int := ((List.range k).filter V.testBit).map (fun (i : Nat) => (i : Int))
def bitsOf (V : Nat) : List Int := upBits V 31
theorem upBits_succ (V k : Nat) : upBits V (k + 1) = upBits V k ++ (if V.testBit k then [(k : Int)] else []) := by
  simp only [upBits, List.range_succ, List.filter_append, List.map_append, List.filter_cons, List.filter_nil]
  split <;> rfl
theorem upBits_len (V k : Nat) : (upBits V k).length ≤ k := by
  simp only [upBits, List.length_map]
  exact Nat.le_trans (List.length_filter_le _ _) (by simp)
theorem upBits_all {V k : Nat} (_hV : V < 2147483648) (hk : k ≤ 31) (hz : V / 2 ^ k = 0) : upBits V k = bitsOf V := by
  obtain ⟨d, hd⟩ : ∃ d, 31 = k + d := ⟨31 - k, by omega⟩
  unfold bitsOf
  rw [hd]
  clear hd
  induction d with
  | zero => rfl
  | succ d ih =>
    rw [ih, ← Nat.add_assoc, upBits_succ]
    have hlt : V < 2 ^ (k + d) := Nat.lt_of_lt_of_le ((Nat.div_eq_zero_iff_lt (Nat.two_pow_pos k)).1 hz) (Nat.pow_le_pow_right (by omega) (by omega))
    rw [Nat.testBit_lt_two_pow hlt]; simp

set_option maxRecDepth 100000 in
set_option maxHeartbeats 1000000 in
theorem listA_any (V : Nat) (hV : V < 2147483648) (w : World) : Calls Try.prog 59 #[.int .u32 (V : Int)] w (RetOwn 3 intCell 1 (bitsOf V) w) := by
  obtain ⟨i0, hi, hz0, hz1, hz2⟩ := info_parts infoInt
  go_enter Try.func59, Try.ntmps59
  go_wp2
  go_loopw [2, 3] (fun v i wr => ∃ k : Nat, k ≤ 31 ∧ i = .int .i64 k ∧ wr.ownsRow w.heap.size 3 1 v (upBits V k).length ((upBits V k).map (Value.int .i64)) ∧ Below w.heap.size w wr) (fun _ i _ => 32 - (intOf i).toNat)
  case atStart => exact ⟨0, by omega, rfl, World.ownsRow_nil _ _ _ _, Below.refl _ _⟩
  case round =>
    obtain ⟨k, hk, rfl, hown, hb⟩ := hrel
    have hsz := hb.size
    have HO := Lib.hid hown
    by_cases hz : V / 2 ^ k = 0
    · have d1 : decide ((0 : Int) < (V : Int) / 2 ^ k) = false := by
        have : (V : Int) / 2 ^ k = ((V / 2 ^ k : Nat) : Int) := by simp
        rw [this, hz]; rfl
      have HF := Lib.hid (upBits_all hV hk hz)
      clear hz
      go_wp2
      go_ret
      exact ⟨_, rfl, by rw [flat_one, ← HF.out]; exact HO.out, hb⟩
    · have hk2 : k < 31 := by
        rcases Nat.lt_or_ge k 31 with h | h
        · exact h
        · exfalso; apply hz
          obtain rfl : k = 31 := by omega
          exact Nat.div_eq_of_lt (by simpa using hV)
      have d1 : decide ((0 : Int) < (V : Int) / 2 ^ k) = true := by
        have : (V : Int) / 2 ^ k = ((V / 2 ^ k : Nat) : Int) := by simp
        rw [this]
        obtain ⟨y, hy⟩ : ∃ y, y = V / 2 ^ k := ⟨_, rfl⟩
        rw [← hy] at hz ⊢
        simp only [decide_eq_true_eq]; omega
      have q1 := u32bit V k (by omega)
      have HS := Lib.hid (upBits_succ V k)
      have hl := upBits_len V k
      by_cases hbit : V.testBit k = true
      · have e1 : V / 2 ^ k % 2 = 1 := by rw [Nat.testBit_eq_decide_div_mod_eq] at hbit; simpa using hbit
        rw [e1] at q1
        have HB := Lib.hid hbit
        clear hbit e1 hz
        go_wp2_with (at_builtin; refine wpList_append_own _ rfl _ _ 28 rfl w.heap.size 3 i0 (.int .i64 0) 1 8 uInts hi hz0 hz1 hz2 rfl (by decide) _ _ _ rfl (hown.alloc _) ⟨wr.heap.size, 0, none⟩ 1 1 [.int .i64 (k : Int)] rfl rfl (cell_one_new _ _ _) (by simp [Value.oneCell']) (by unfold maxLen; omega) (by omega) (by simp; omega) ?_; intro v' w1 hown1 hgrow _)
        have hb2 : Below w.heap.size w w1 := (hb.alloc hsz _).grown hgrow (by simp; omega) (fun g hg => (hown.lt g hg).1)
        have HO1 := Lib.hid hown1
        clear hown hown1 hgrow
        go_wp2
        go_roundw
        case rel => exact ⟨k + 1, by omega, by go_num, by rw [HS.out, HB.out]; simpa using HO1.out, hb2⟩
        case measure => simp [intOf]; omega
      · have e1 : V / 2 ^ k % 2 = 0 := by rw [Nat.testBit_eq_decide_div_mod_eq] at hbit; simp at hbit; omega
        rw [e1] at q1
        simp only [Bool.not_eq_true] at hbit
        have HB := Lib.hid hbit
        clear hbit e1 hz hown
        go_wp2
        go_roundw
        case rel => exact ⟨k + 1, by omega, by go_num, by rw [HS.out, HB.out]; simpa using HO.out, hb⟩
        case measure => simp [intOf]; omega

set_option maxRecDepth 100000 in
set_option maxHeartbeats 1000000 in
theorem listR_any (V : Nat) (hV : V < 2147483648) (w : World) : Calls Try.prog 75 #[.int .u32 (V : Int)] w (RetOwn 3 intCell 1 (bitsOf V) w) := by
  obtain ⟨i0, hi, hz0, hz1, hz2⟩ := info_parts infoInt
  go_enter Try.func75, Try.ntmps75
  go_wp2
  go_loopw [2, 3] (fun v i wr => ∃ k : Nat, k ≤ 31 ∧ i = .int .i64 k ∧ wr.ownsRow w.heap.size 3 1 v (upBits V k).length ((upBits V k).map (Value.int .i64)) ∧ Below w.heap.size w wr) (fun _ i _ => 32 - (intOf i).toNat)
  case atStart => exact ⟨0, by omega, rfl, World.ownsRow_nil _ _ _ _, Below.refl _ _⟩
  case round =>
    obtain ⟨k, hk, rfl, hown, hb⟩ := hrel
    have hsz := hb.size
    have HO := Lib.hid hown
    by_cases hz : V / 2 ^ k = 0
    · have d1 : decide ((0 : Int) < (V : Int) / 2 ^ k) = false := by
        have : (V : Int) / 2 ^ k = ((V / 2 ^ k : Nat) : Int) := by simp
        rw [this, hz]; rfl
      have HF := Lib.hid (upBits_all hV hk hz)
      clear hz
      go_wp2
      go_ret
      exact ⟨_, rfl, by rw [flat_one, ← HF.out]; exact HO.out, hb⟩
    · have hk2 : k < 31 := by
        rcases Nat.lt_or_ge k 31 with h | h
        · exact h
        · exfalso; apply hz
          obtain rfl : k = 31 := by omega
          exact Nat.div_eq_of_lt (by simpa using hV)
      have d1 : decide ((0 : Int) < (V : Int) / 2 ^ k) = true := by
        have : (V : Int) / 2 ^ k = ((V / 2 ^ k : Nat) : Int) := by simp
        rw [this]
        obtain ⟨y, hy⟩ : ∃ y, y = V / 2 ^ k := ⟨_, rfl⟩
        rw [← hy] at hz ⊢
        simp only [decide_eq_true_eq]; omega
      have q1 := u32bit V k (by omega)
      have HS := Lib.hid (upBits_succ V k)
      have hl := upBits_len V k
      by_cases hbit : V.testBit k = true
      · have e1 : V / 2 ^ k % 2 = 1 := by rw [Nat.testBit_eq_decide_div_mod_eq] at hbit; simpa using hbit
        rw [e1] at q1
        have HB := Lib.hid hbit
        clear hbit e1 hz
        go_wp2_with (at_builtin; refine wpList_append_own _ rfl _ _ 28 rfl w.heap.size 3 i0 (.int .i64 0) 1 8 uInts hi hz0 hz1 hz2 rfl (by decide) _ _ _ rfl (hown.alloc _) ⟨wr.heap.size, 0, none⟩ 1 1 [.int .i64 (k : Int)] rfl rfl (cell_one_new _ _ _) (by simp [Value.oneCell']) (by unfold maxLen; omega) (by omega) (by simp; omega) ?_; intro v' w1 hown1 hgrow _)
        have hb2 : Below w.heap.size w w1 := (hb.alloc hsz _).grown hgrow (by simp; omega) (fun g hg => (hown.lt g hg).1)
        have HO1 := Lib.hid hown1
        clear hown hown1 hgrow
        go_wp2
        go_roundw
        case rel => exact ⟨k + 1, by omega, by go_num, by rw [HS.out, HB.out]; simpa using HO1.out, hb2⟩
        case measure => simp [intOf]; omega
      · have e1 : V / 2 ^ k % 2 = 0 := by rw [Nat.testBit_eq_decide_div_mod_eq] at hbit; simp at hbit; omega
        rw [e1] at q1
        simp only [Bool.not_eq_true] at hbit
        have HB := Lib.hid hbit
        clear hbit e1 hz hown
        go_wp2
        go_roundw
        case rel => exact ⟨k + 1, by omega, by go_num, by rw [HS.out, HB.out]; simpa using HO.out, hb⟩
        case measure => simp [intOf]; omega
end Go.Proofs.Ytidlmbajpbbilaa
namespace Go.Proofs.Ytidlmbajpbbilaa
open Go.RowKit

def digits (sg : Int) : Nat → Int → List Int
  | 0, _ => []
  | p + 1, n => digits sg p (n / sg) ++ [n % sg]
def divN (sg : Int) : Nat → Int → Int
  | 0, n => n
  | k + 1, n => divN sg k n / sg
theorem divN_succ (sg : Int) (k : Nat) (n : Int) : divN sg k (n / sg) = divN sg k n / sg := by
  induction k generalizing n with
  | zero => rfl
  | succ k ih => simp only [divN]; rw [ih]
theorem digits_len (sg : Int) (p : Nat) : ∀ n, (digits sg p n).length = p := by
  induction p with
  | zero => intro n; rfl
  | succ p ih => intro n; simp [digits, ih]
theorem digits_cons (sg : Int) (k : Nat) : ∀ n, digits sg (k + 1) n = divN sg k n % sg :: digits sg k n := by
  induction k with
  | zero => intro n; rfl
  | succ k ih =>
    intro n
    rw [digits, ih, divN_succ]
    simp only [digits, divN, List.cons_append]
theorem digits_bd {sg : Int} (h : 1 ≤ sg) (p : Nat) : ∀ n, ∀ x ∈ digits sg p n, 0 ≤ x ∧ x < sg := by
  induction p with
  | zero => intro n x hx; cases hx
  | succ p ih =>
    intro n x hx
    rcases List.mem_append.1 hx with hx | hx
    · exact ih _ x hx
    · simp only [List.mem_singleton] at hx; subst hx; exact ⟨Int.emod_nonneg _ (by omega), Int.emod_lt_of_pos _ (by omega)⟩
theorem divN_bd {sg n : Int} (h : 1 ≤ sg) (h0 : 0 ≤ n) (k : Nat) : 0 ≤ divN sg k n ∧ divN sg k n ≤ n := by
  induction k with
  | zero => exact ⟨h0, Int.le_refl _⟩
  | succ k ih =>
    simp only [divN]
    exact ⟨Int.ediv_nonneg ih.1 (by omega), Int.le_trans (Int.ediv_le_self _ ih.1) ih.2⟩
/-- the cells of a chart behind k rounds -/
def chartTo (sg n : Int) (p k : Nat) : List Value := List.replicate (p - k) (.int .i64 0) ++ (digits sg k n).map (Value.int .i64)
theorem chartTo_succ (sg n : Int) (p k : Nat) (h : k < p) : (chartTo sg n p k).set (p - 1 - k) (.int .i64 (divN sg k n % sg)) = chartTo sg n p (k + 1) := by
  unfold chartTo
  rw [digits_cons, List.set_append_left _ _ (by simp; omega)]
  obtain ⟨d, hd⟩ : ∃ d, p - k = d + 1 := ⟨p - k - 1, by omega⟩
  rw [hd, show p - 1 - k = d by omega, show p - (k + 1) = d by omega, List.replicate_succ', List.set_append_right _ _ (by simp)]
  simp
theorem toList_madeCells_one' (z : Value) (n : Nat) (h : z.cells = #[z]) : (madeCells z.cells (n * 1)).toList = List.replicate n z := by rw [h, Nat.mul_one]; exact toList_madeCells_one z n
abbrev chartL (s : Sch) (n : Int) : List Int := digits s.signs s.places.toNat n

set_option maxRecDepth 100000 in
set_option maxHeartbeats 1000000 in
theorem chart_any (s : Sch) (R : Value) (n : Int) (hs : Small s) (hn : 0 ≤ n) (hn' : n ≤ 4096) (w : World) : Calls Try.prog 73 #[scv s R, .int .i64 n] w (RetOwn 3 intCell 1 (chartL s n) w) := by
  obtain ⟨h1, h2, h3, h4⟩ := hs
  obtain ⟨pl, sg, k, a, ra, rc, rs⟩ := s
  simp only at *
  obtain ⟨p, rfl⟩ := Int.eq_ofNat_of_zero_le (a := pl) (by omega)
  obtain ⟨i0, hi, hz0, hz1, hz2⟩ := info_parts infoInt
  have FIN : ∀ (w' : World) (g : Nat), w'.ownsRow w.heap.size 3 1 (.slice (some ⟨g, 0, none⟩) p p) p (chartTo sg n p p) → Below w.heap.size w w' → RetOwn 3 intCell 1 (digits sg p n) w (.returned (.slice (some ⟨g, 0, none⟩) p p)) w' := fun w' g h hb =>
    ⟨_, rfl, by rw [flat_one, digits_len]; simpa [chartTo] using h, hb⟩
  have HFIN := Lib.hid FIN
  clear FIN
  show Calls Try.prog 73 _ w (RetOwn 3 intCell 1 (digits sg p n) w)
  go_enter Try.func73, Try.ntmps73
  go_wp2_with (at_make; refine wpList_make_full _ rfl _ _ 28 rfl w.heap.size 3 i0 (.int .i64 0) 1 uInts hi hz0 hz1 .i64 .i64 _ _ p rfl rfl rfl rfl (by rw [hz2]; omega) (by unfold maxLen; omega) (by simp) ?_; intro W1 hown1 hgrow1)
  obtain ⟨W0, hW0⟩ : ∃ W0, W0 = w.alloc (Obj.cells #[Value.int IntKind.i64 (p : Int), Value.int IntKind.i64 sg, Value.int IntKind.i64 k, Value.int IntKind.i64 a, R] 24) := ⟨_, rfl⟩
  rw [World.size_alloc] at hown1
  have hB1 : Below (w.heap.size + 1) W0 W1 := by rw [hW0]; exact (Below.refl _ _).grown hgrow1 (by simp) (fun g hg => by cases hg)
  have hwW : Below w.heap.size w W0 := by rw [hW0]; (repeat (first | exact Below.refl _ _ | assumption | (refine Below.alloc ?_ (by first | omega | (simp; omega) | (simp; done)) _) | (refine Below.setCell ?_ (by first | omega | (simp; omega) | (simp; done)) _) | (refine Below.drew ?_) | (refine belowN ?_ _) | (refine Below.trans ?_ (Below.mono ‹Below _ _ _› (by first | omega | (simp; omega) | (simp; done))))))
  have q0 : W0.cell? ⟨w.heap.size, 0, none⟩ = some (.int .i64 (p : Int)) := by rw [hW0]; simp [go_sem]
  have q1 : W0.cell? ⟨w.heap.size, 1, none⟩ = some (.int .i64 sg) := by rw [hW0]; simp [go_sem]
  have Q0 := Lib.hid q0; have Q1 := Lib.hid q1; have HO1 := Lib.hid hown1
  clear hW0 q0 q1 hgrow1 hown1
  go_loopw [1, 12] (fun v i wr => ∃ j : Nat, j ≤ p ∧ i = .int .i64 j ∧ v = .int .i64 (divN sg j n) ∧ Below (w.heap.size + 1) W0 wr ∧ wr.ownsRow w.heap.size 3 1 (.slice (some ⟨w.heap.size + 1, 0, none⟩) p p) p (chartTo sg n p j)) (fun _ i _ => p - (intOf i).toNat)
  case atStart => exact ⟨0, by omega, rfl, rfl, hB1, by have h := HO1.out; rw [toList_madeCells_one' _ _ rfl] at h; simpa [chartTo, digits] using h⟩
  case round =>
    obtain ⟨j, hj, rfl, rfl, hb, hown⟩ := hrel
    have HO := Lib.hid hown
    have c0 : wr.cell? ⟨w.heap.size, 0, none⟩ = some (.int .i64 (p : Int)) := by rw [hb.cell (p := ⟨w.heap.size, 0, none⟩) (by simp)]; exact Q0.out
    have c1 : wr.cell? ⟨w.heap.size, 1, none⟩ = some (.int .i64 sg) := by rw [hb.cell (p := ⟨w.heap.size, 1, none⟩) (by simp)]; exact Q1.out
    obtain ⟨hd0, hd1⟩ := divN_bd h3 hn j
    by_cases hlt : j < p
    · have i0' : 0 ≤ (p : Int) - 1 - j := by omega
      have i1' : (p : Int) - 1 - j < p := by omega
      have cS : ∃ u, wr.cell? ⟨w.heap.size + 1, p - 1 - j, none⟩ = some u := by
        rw [hown.cellAt (p - 1 - j) (by omega)]
        have : p - 1 - j < (chartTo sg n p j).length := by rw [hown.1]; omega
        exact ⟨_, List.getElem?_eq_getElem this⟩
      obtain ⟨u, cS⟩ := cS
      have fS : wr.frozen? ⟨w.heap.size + 1, p - 1 - j, none⟩ = false := hown.frozenAt _
      have HD : Hid (divN sg (j + 1) n = divN sg j n / sg) := (rfl : divN sg (j + 1) n = divN sg j n / sg)
      have HST := fun u => Lib.hid (hown.stored (p - 1 - j) u)
      have HCT := Lib.hid (chartTo_succ sg n p j hlt)
      obtain ⟨d, hd⟩ : ∃ d, d = divN sg j n := ⟨_, rfl⟩
      rw [← hd] at hd0 hd1 HD HCT ⊢
      clear hown hd
      go_wp2
      go_region
      go_wp2
      go_roundw
      case rel => exact ⟨j + 1, by omega, by go_num, by rw [HD.out], by (repeat (first | exact Below.refl _ _ | assumption | (refine Below.alloc ?_ (by first | omega | (simp; omega) | (simp; done)) _) | (refine Below.setCell ?_ (by first | omega | (simp; omega) | (simp; done)) _) | (refine Below.drew ?_) | (refine belowN ?_ _) | (refine Below.trans ?_ (Below.mono ‹Below _ _ _› (by first | omega | (simp; omega) | (simp; done)))))), by rw [← HCT.out]; exact (HST _).out.1⟩
      case measure => simp [intOf]; omega
    · obtain rfl : j = p := by omega
      go_wp2
      go_ret
      exact HFIN.out _ _ HO.out (by (repeat (first | exact Below.refl _ _ | assumption | (refine Below.alloc ?_ (by first | omega | (simp; omega) | (simp; done)) _) | (refine Below.setCell ?_ (by first | omega | (simp; omega) | (simp; done)) _) | (refine Below.drew ?_) | (refine belowN ?_ _) | (refine Below.trans ?_ (Below.mono ‹Below _ _ _› (by first | omega | (simp; omega) | (simp; done)))))))
end Go.Proofs.Ytidlmbajpbbilaa

/- habit, references: times, compare, Products. -/
import Derived.Test.YtiikkcifdhcejaaZ33Ue
import Derived.Test.YtiikkcifdhcejaaWs
import Derived.Test.YtiikkcifdhcejaaZ30PyA
namespace Go.Proofs.Ytiikkcifdhcejaa
open Go.RowKit

theorem ownSl {w : World} {b : Nat} {e : TypeId} {size : Nat} {v : Value} {n : Nat} {xs : List Value} (h : w.ownsRow b e size v n xs) : ∃ A c, v = .slice A n c := by
  rcases h.2 with ⟨h1, h2⟩ | ⟨g, cap, cur, h1, _⟩
  · exact ⟨none, 0, by rw [h1, h2]⟩
  · exact ⟨_, cap, h1⟩
/-- a slice reads as the digits of a number -/
theorem Sl.front {W : World} {B : Nat} {A : Option Addr} {l : List Int} (h : Sl intCell 1 W B A l) (k : Nat) : Sl intCell 1 W B A (l.take k) := by
  refine ⟨by rw [flat_int]; simp, fun hn => ?_⟩
  have hn' : 0 < l.length := by rw [List.length_take] at hn; omega
  obtain ⟨b, o, e, hb, hc⟩ := h.2 hn'
  refine ⟨b, o, e, hb, fun j u hu => hc _ _ ?_⟩
  rw [flat_int] at hu ⊢
  rw [List.getElem?_map, List.getElem?_take] at hu
  split at hu
  · rw [List.getElem?_map]; exact hu
  · simp at hu
/-- digits are returned -/
def RetDg (x k : Nat) (w : World) (e : Ending) (w' : World) : Prop :=
  ∃ (L : List Nat) (A : Option Addr) (c : Nat), Rep 10000 L x ∧ L.length ≤ k ∧ e = .returned (.slice A L.length c) ∧ Sl intCell 1 w' w'.heap.size A (dI L) ∧ Below w.heap.size w w'
theorem mul_meas {a i n c d : Nat} (hi : i < a) (hd : d ≤ n) : (a - (i + 1)) * (n + 1) + d < (a - i) * (n + 1) + c := by
  have h : (a - i) * (n + 1) = (a - (i + 1)) * (n + 1) + (n + 1) := by rw [show a - i = a - (i + 1) + 1 by omega, Nat.add_mul, Nat.one_mul]
  omega
set_option maxRecDepth 100000 in
set_option maxHeartbeats 4000000 in
theorem rtimes_any (A : Option Addr) (c : Nat) (l : List Nat) (x n : Nat) (w : World) (hl : l.length ≤ 100000) (hn : n ≤ 100000) (hx : Rep 10000 l x) (hr : Sl intCell 1 w w.heap.size A (dI l)) :
    Calls Try.prog 78 #[.slice A l.length c, .int .i64 (n : Int)] w (RetDg (x * n) (l.length + 2) w) := by
  obtain ⟨i0', hInf, iz0, iz1, iz2⟩ := info_parts infoInt
  have HR := Lib.hid hr; have HX := Lib.hid hx
  have HOM := Lib.hid (World.ownsRow_made (e := 3) (size := 1) w #[] 0 (base := w.heap.size) (Nat.le_refl _) (by simp) (by simp))
  clear hr hx
  go_enter Try.func78, Try.ntmps78
  go_wp2_with fail
  go_loopw [5, 6, 7] (fun ov cv iv W => ∃ (i cy : Nat) (o : List Nat) (Ap : Option Addr) (cp : Nat), iv = .int .i64 (i : Int) ∧ cv = .int .i64 (cy : Int) ∧ ov = .slice Ap i cp ∧ Hid (W.ownsRow w.heap.size 3 1 (.slice Ap i cp) i ((dI o).map (Value.int .i64))) ∧ Hid (MulGo 10000 n l i o cy) ∧ i ≤ l.length + n ∧ (l.length ≤ i → i + cy ≤ l.length + n) ∧ Below w.heap.size w W) (fun _ cv iv _ => (l.length - (intOf iv).toNat) * (n + 1) + (intOf cv).toNat)
  case atStart =>
    refine ⟨0, 0, [], _, _, rfl, rfl, rfl, ?_, Lib.hid (MulGo.start _ _ _), by omega, fun _ => by omega, by (repeat (first | exact Below.refl _ _ | assumption | (refine Below.alloc ?_ (by first | omega | (simp; omega) | (simp; done)) _) | (refine Below.setCell ?_ (by first | omega | (simp; omega) | (simp; done)) _) | (refine Below.drew ?_) | (refine belowN ?_ _) | (refine Below.trans ?_ (Below.mono ‹Below _ _ _› (by first | omega | (simp; omega) | (simp; done))))))⟩
    exact Lib.hid (by simpa [dI] using HOM.out)
  case round =>
    obtain ⟨i, cy, o, Ap, cp, rfl, rfl, rfl, HOW, HMU, hi, hiy, hw⟩ := hrel
    have hcn := HMU.out.car
    have hsz := hw.size
    clear HOM
    by_cases hlt : i < l.length
    · obtain ⟨b, f, rfl, hbb, hc⟩ := (HR.out.below hw).int_at (k := i) (by rw [dI_len]; exact hlt)
      rw [dI_get hlt] at hc
      obtain ⟨hq1, hst⟩ := HMU.out.step (by decide) HX.out.dig hlt
      have hdg : l.getD i 0 < 10000 := getD_lt HX.out.dig hlt
      obtain ⟨u, hu⟩ : ∃ u, u = l.getD i 0 := ⟨_, rfl⟩
      rw [← hu] at hc hq1 hst hdg
      obtain ⟨p, hp⟩ : ∃ p, p = u * n := ⟨_, rfl⟩
      have w1 : IntKind.i64.wrap ((u : Int) * (n : Int)) = (p : Int) := by
        rw [hp, ← Int.natCast_mul]
        rw [← hp] at hq1 ⊢
        exact IntWalk.i64_in _ ⟨by omega, by omega⟩
      rw [← hp] at hq1 hst
      obtain ⟨q, hq⟩ : ∃ q, q = cy + p := ⟨_, rfl⟩
      have w2 : IntKind.i64.wrap ((cy : Int) + (p : Int)) = (q : Int) := by
        rw [hq, ← Int.natCast_add]
        exact IntWalk.i64_in _ ⟨by omega, by omega⟩
      rw [← hq] at hq1 hst
      obtain ⟨d, hd⟩ : ∃ d, d = q % 10000 := ⟨_, rfl⟩
      obtain ⟨z, hz⟩ : ∃ z, z = q / 10000 := ⟨_, rfl⟩
      have e1 : (q : Int) % 10000 = (d : Int) := by rw [hd]; exact (Int.natCast_emod q 10000).symm
      have e2 : (q : Int) / 10000 = (z : Int) := by rw [hz]; exact (Int.natCast_ediv q 10000).symm
      have e3 : (q : Int).tmod 10000 = (d : Int) := by rw [Int.tmod_eq_emod_of_nonneg (by omega)]; exact e1
      have e4 : (q : Int).tdiv 10000 = (z : Int) := by rw [Int.tdiv_eq_ediv_of_nonneg (by omega)]; exact e2
      rw [← hd, ← hz] at hst
      have HST := Lib.hid hst
      have q0 : (0 : Int) ≤ (q : Int) := by omega
      have HZN := Lib.hid HST.out.car
      have i0 : (0 : Int) ≤ (i : Int) := by omega
      have i1 : (i : Int) < (l.length : Int) := by omega
      have HW := Lib.hid hw
      clear hu hp hq hd hz hst HMU hiy hw
      go_wp2_with (first | (at_builtin; go_loud (refine wpList_append_own _ rfl _ _ 30 rfl w.heap.size 3 i0' (.int .i64 0) 1 8 uInts hInf iz0 iz1 iz2 rfl (by decide) _ _ _ rfl (HOW.out.alloc _) ⟨wr.heap.size, 0, none⟩ 1 1 [.int .i64 (d : Int)] rfl rfl (cell_one_new _ _ _) (by simp [Value.oneCell']) (by unfold maxLen; omega) (by omega) (by simp; omega) ?_); intro v' w1 hown1 hgrow _; refine Hid.out ?_; obtain ⟨Ap', cp', rfl⟩ := ownSl hown1; have HO2 := Lib.hid hown1; have HB2 : Hid (Below w.heap.size w w1) := (HW.out.alloc HW.out.size _).grown hgrow (by have := HW.out.size; simp; omega) (fun g hg => by have := (HOW.out.lt g hg).1; omega); clear hown1 hgrow; refine Lib.hid ?_) | fail)
      refine ⟨⟨i + 1, z, o ++ [d], Ap', cp', by go_num, rfl, rfl, ?_, HST, by omega, fun _ => by have := HZN.out; omega, HB2.out⟩, ?_⟩
      · have := HO2.out
        exact Lib.hid (by simpa [dI] using this)
      · have := mul_meas (c := cy) hlt HZN.out
        simpa [intOf] using this
    · have d9 : decide ((i : Int) < (l.length : Int)) = false := decide_eq_false (by omega)
      by_cases hcy : cy = 0
      · subst hcy
        have HE : Hid (valD 10000 o = x * n) := (by show _ = _; rw [HMU.out.end_ (by omega), HX.out.val] : _)
        have HDG := Lib.hid HMU.out.dig
        have hol := HMU.out.len
        obtain ⟨A9, c9, e9, hs9, _, hcap⟩ := sl_of_ownK (l := dI o) (by rw [flat_int, dI_len, hol]; exact HOW.out)
        rw [dI_len, hol] at e9 hcap
        cases e9
        have HS := Lib.hid hs9
        have HTO : Hid (TopOk 10000 o i (x * n)) := Lib.hid ⟨by omega, HDG.out, by rw [← hol, List.take_length]; exact HE.out⟩
        have HOL := Lib.hid hol
        have hi2 : i ≤ 200000 := by omega
        have HW := Lib.hid hw
        clear hol hs9 HOW HMU hw hiy hcn
        go_wp2
        rename World => W5
        go_loopw [5] (fun v wr => ∃ k : Nat, k ≤ i ∧ v = .slice Ap k cp ∧ Hid (TopOk 10000 o k (x * n)) ∧ Hid (Sl intCell 1 wr wr.heap.size Ap (dI o)) ∧ Below w.heap.size w wr) (fun v _ => match v with | .slice _ n _ => n | _ => 0)
        case atStart => exact ⟨i, Nat.le_refl _, rfl, HTO, HS, HW.out⟩
        case round =>
          clear HS HW
          rename World => W6
          obtain ⟨k, hk, rfl, HT, HS, hw⟩ := hrel
          cases k with
          | zero =>
            have HRp := Lib.hid (TopOk.rep0 HT.out)
            have HS0 := Lib.hid (HS.out.front 0)
            go_wp2
            go_ret
            exact ⟨[], Ap, cp, HRp.out, by simp, by simp, HS0.out, hw⟩
          | succ k =>
            have hkl : k < o.length := by rw [HOL.out]; omega
            obtain ⟨b, f, rfl, hbb, hc⟩ := HS.out.int_at (k := k) (by rw [dI_len]; exact hkl)
            rw [dI_get hkl] at hc
            have HL := Lib.hid (fun h => HT.out.less h)
            have HP := Lib.hid (fun h => HT.out.rep h)
            have HS0 := Lib.hid (HS.out.front (k + 1))
            obtain ⟨ov, hov⟩ : ∃ ov, ov = o.getD k 0 := ⟨_, rfl⟩
            rw [← hov] at hc HL HP
            have kk0 : (0 : Int) < (k : Int) + 1 := by omega
            have kk1 : decide ((0 : Int) < (k : Int) + 1) = true := decide_eq_true kk0
            have kk2 : ((k + 1 : Nat) : Int) = (k : Int) + 1 := by omega
            clear hov
            by_cases h0 : ov = 0
            · have HL2 := Lib.hid (HL.out h0)
              subst h0
              clear HL HP
              go_wp2
              refine ⟨⟨k, by omega, rfl, HL2, HS, hw⟩, ?_⟩
              simp
            · have HP2 := Lib.hid (HP.out h0)
              have b0 : ((ov : Int) == 0) = false := beq_eq_false_iff_ne.2 (by omega)
              have hlen : (o.take (k + 1)).length = k + 1 := by rw [List.length_take]; omega
              have HLN := Lib.hid hlen
              have HML := Lib.hid (HX.out.mul_len HP2.out hn)
              clear HL HP h0 hlen
              go_wp2
              go_ret
              refine ⟨_, _, cp, HP2.out, HML.out, by rw [HLN.out]; rfl, ?_, hw⟩
              rw [dI, List.map_take]; exact HS0.out
      · have d8 : decide ((0 : Int) < (cy : Int)) = true := decide_eq_true (by omega)
        have hst := HMU.out.more (by decide) (by omega)
        obtain ⟨d, hd⟩ : ∃ d, d = cy % 10000 := ⟨_, rfl⟩
        obtain ⟨z, hz⟩ : ∃ z, z = cy / 10000 := ⟨_, rfl⟩
        have e1 : (cy : Int) % 10000 = (d : Int) := by rw [hd]; exact (Int.natCast_emod cy 10000).symm
        have e2 : (cy : Int) / 10000 = (z : Int) := by rw [hz]; exact (Int.natCast_ediv cy 10000).symm
        have e3 : (cy : Int).tmod 10000 = (d : Int) := by rw [Int.tmod_eq_emod_of_nonneg (by omega)]; exact e1
        have e4 : (cy : Int).tdiv 10000 = (z : Int) := by rw [Int.tdiv_eq_ediv_of_nonneg (by omega)]; exact e2
        rw [← hd, ← hz] at hst
        have HST := Lib.hid hst
        have q0 : (0 : Int) ≤ (cy : Int) := by omega
        have hzc : z < cy := by rw [hz]; exact Nat.div_lt_self (by omega) (by decide)
        have hdi := hiy (by omega)
        have i0 : (0 : Int) ≤ (i : Int) := by omega
        have HW := Lib.hid hw
        clear hd hz hst HMU hiy hw
        go_wp2_with (first | (at_builtin; go_loud (refine wpList_append_own _ rfl _ _ 30 rfl w.heap.size 3 i0' (.int .i64 0) 1 8 uInts hInf iz0 iz1 iz2 rfl (by decide) _ _ _ rfl (HOW.out.alloc _) ⟨wr.heap.size, 0, none⟩ 1 1 [.int .i64 (d : Int)] rfl rfl (cell_one_new _ _ _) (by simp [Value.oneCell']) (by unfold maxLen; omega) (by omega) (by simp; omega) ?_); intro v' w1 hown1 hgrow _; refine Hid.out ?_; obtain ⟨Ap', cp', rfl⟩ := ownSl hown1; have HO2 := Lib.hid hown1; have HB2 : Hid (Below w.heap.size w w1) := (HW.out.alloc HW.out.size _).grown hgrow (by have := HW.out.size; simp; omega) (fun g hg => by have := (HOW.out.lt g hg).1; omega); clear hown1 hgrow; refine Lib.hid ?_) | fail)
        refine ⟨⟨i + 1, z, o ++ [d], Ap', cp', by go_num, rfl, rfl, ?_, HST, by omega, fun _ => by omega, HB2.out⟩, ?_⟩
        · have := HO2.out
          exact Lib.hid (by simpa [dI] using this)
        · have e0 : l.length - i = 0 := by omega
          have e9 : l.length - (i + 1) = 0 := by omega
          simp [intOf, e0, e9]; omega
set_option maxRecDepth 100000 in
set_option maxHeartbeats 4000000 in
theorem rcmp_any (A : Option Addr) (c : Nat) (l : List Nat) (A2 : Option Addr) (c2 : Nat) (m : List Nat) (x y : Nat) (w : World) (hl : l.length ≤ 4000000) (hm : m.length ≤ 4000000) (hx : Rep 10000 l x) (hy : Rep 10000 m y) (hr : Sl intCell 1 w w.heap.size A (dI l)) (hr2 : Sl intCell 1 w w.heap.size A2 (dI m)) :
    Calls Try.prog 79 #[.slice A l.length c, .slice A2 m.length c2] w fun e w' => e = .returned (.int .i64 (cmpN x y)) ∧ Below w.heap.size w w' := by
  have HR := Lib.hid hr; have HR2 := Lib.hid hr2
  by_cases hne : l.length = m.length
  · have HC := Lib.hid (hx.cmp_eq hy hne)
    have HNE := Lib.hid hne
    have b1 : ((l.length : Int) != (m.length : Int)) = false := by simp; omega
    have b2 : (l.length != m.length) = false := by simp; omega
    clear hr hr2 hx hy hne
    have wl : IntKind.i64.wrap ((l.length : Int) - 1) = (l.length : Int) - 1 := IntWalk.i64_in _ ⟨by omega, by omega⟩
    go_enter Try.func79, Try.ntmps79
    go_wp2
    go_loopw [5] (fun iv wr => ∃ k : Nat, k ≤ l.length ∧ iv = .int .i64 ((k : Int) - 1) ∧ Hid (cmpN x y = cmpD l m k) ∧ Below w.heap.size w wr) (fun iv _ => (intOf iv + 1).toNat)
    case atStart => exact ⟨l.length, Nat.le_refl _, rfl, HC, by (repeat (first | exact Below.refl _ _ | assumption | (refine Below.alloc ?_ (by first | omega | (simp; omega) | (simp; done)) _) | (refine Below.setCell ?_ (by first | omega | (simp; omega) | (simp; done)) _) | (refine Below.drew ?_) | (refine belowN ?_ _) | (refine Below.trans ?_ (Below.mono ‹Below _ _ _› (by first | omega | (simp; omega) | (simp; done))))))⟩
    case round =>
      obtain ⟨k, hk, rfl, HK, hb⟩ := hrel
      clear wl
      cases k with
      | zero =>
        have HZ : Hid (cmpN x y = 0) := (HK.out : _)
        go_wp2
        go_ret
        exact ⟨ret_int HZ.out.symm, hb⟩
      | succ k =>
        have hkl : k < l.length := by omega
        have hkm : k < m.length := by have := HNE.out; omega
        obtain ⟨b, o, rfl, hbb, hc⟩ := (HR.out.below hb).int_at (k := k) (by rw [dI_len]; exact hkl)
        obtain ⟨b2, o2, rfl, hbb2, hc2⟩ := (HR2.out.below hb).int_at (k := k) (by rw [dI_len]; exact hkm)
        rw [dI_get hkl] at hc
        rw [dI_get hkm] at hc2
        have hK2 : cmpN x y = if l.getD k 0 < m.getD k 0 then -1 else if m.getD k 0 < l.getD k 0 then 1 else cmpD l m k := HK.out
        obtain ⟨u, hu⟩ : ∃ u, u = l.getD k 0 := ⟨_, rfl⟩
        obtain ⟨v, hv⟩ : ∃ v, v = m.getD k 0 := ⟨_, rfl⟩
        rw [← hu, ← hv] at hK2
        rw [← hu] at hc
        rw [← hv] at hc2
        have k0 : (0 : Int) ≤ (k : Int) := by omega
        have k1 : (k : Int) < (l.length : Int) := by omega
        have k2 : (k : Int) < (m.length : Int) := by omega
        have k3 : decide ((0 : Int) ≤ (k : Int)) = true := decide_eq_true k0
        have ke : ((k + 1 : Nat) : Int) - 1 = (k : Int) := by omega
        have wk : IntKind.i64.wrap ((k : Int) - 1) = (k : Int) - 1 := IntWalk.i64_in _ ⟨by omega, by omega⟩
        rw [ke]
        have HK2 := Lib.hid hK2
        clear hu hv ke hK2 HK
        by_cases h1 : u < v
        · have d1 : decide ((u : Int) < (v : Int)) = true := decide_eq_true (by omega)
          have d1n : decide (u < v) = true := decide_eq_true h1
          have HV : Hid (cmpN x y = -1) := (by show _ = _; rw [HK2.out, if_pos h1] : _)
          clear h1
          go_wp2
          go_quiet (fail)
          go_wp2
          go_ret
          exact ⟨ret_int HV.out.symm, by (repeat (first | exact Below.refl _ _ | assumption | (refine Below.alloc ?_ (by first | omega | (simp; omega) | (simp; done)) _) | (refine Below.setCell ?_ (by first | omega | (simp; omega) | (simp; done)) _) | (refine Below.drew ?_) | (refine belowN ?_ _) | (refine Below.trans ?_ (Below.mono ‹Below _ _ _› (by first | omega | (simp; omega) | (simp; done))))))⟩
        · have d1 : decide ((u : Int) < (v : Int)) = false := decide_eq_false (by omega)
          have d1n : decide (u < v) = false := decide_eq_false h1
          by_cases h2 : v < u
          · have d2 : decide ((v : Int) < (u : Int)) = true := decide_eq_true (by omega)
            have d2n : decide (v < u) = true := decide_eq_true h2
            have HV : Hid (cmpN x y = 1) := (by show _ = _; rw [HK2.out, if_neg h1, if_pos h2] : _)
            clear h1 h2
            go_wp2
            go_quiet (fail)
            go_wp2
            go_quiet (fail)
            go_wp2
            go_ret
            exact ⟨ret_int HV.out.symm, by (repeat (first | exact Below.refl _ _ | assumption | (refine Below.alloc ?_ (by first | omega | (simp; omega) | (simp; done)) _) | (refine Below.setCell ?_ (by first | omega | (simp; omega) | (simp; done)) _) | (refine Below.drew ?_) | (refine belowN ?_ _) | (refine Below.trans ?_ (Below.mono ‹Below _ _ _› (by first | omega | (simp; omega) | (simp; done))))))⟩
          · have d2 : decide ((v : Int) < (u : Int)) = false := decide_eq_false (by omega)
            have d2n : decide (v < u) = false := decide_eq_false h2
            have HV : Hid (cmpN x y = cmpD l m k) := (by show _ = _; rw [HK2.out, if_neg h1, if_neg h2] : _)
            clear h1 h2
            go_wp2
            go_quiet (fail)
            go_wp2
            go_quiet (fail)
            go_wp2
            refine ⟨⟨k, by omega, by go_num, HV, by (repeat (first | exact Below.refl _ _ | assumption | (refine Below.alloc ?_ (by first | omega | (simp; omega) | (simp; done)) _) | (refine Below.setCell ?_ (by first | omega | (simp; omega) | (simp; done)) _) | (refine Below.drew ?_) | (refine belowN ?_ _) | (refine Below.trans ?_ (Below.mono ‹Below _ _ _› (by first | omega | (simp; omega) | (simp; done))))))⟩, ?_⟩
            simp [intOf]
  · have b1 : ((l.length : Int) != (m.length : Int)) = true := by simp; omega
    have b2 : (l.length != m.length) = true := by simp; omega
    rcases Nat.lt_or_gt_of_ne hne with h | h
    · have HV : Hid (cmpN x y = -1) := (by show _ = _; exact hx.cmp_lt hy h : _)
      have d1 : decide ((l.length : Int) < (m.length : Int)) = true := decide_eq_true (by omega)
      clear hr hr2 hx hy hne
      go_enter Try.func79, Try.ntmps79
      go_wp2
      go_ret
      exact ⟨ret_int HV.out.symm, by (repeat (first | exact Below.refl _ _ | assumption | (refine Below.alloc ?_ (by first | omega | (simp; omega) | (simp; done)) _) | (refine Below.setCell ?_ (by first | omega | (simp; omega) | (simp; done)) _) | (refine Below.drew ?_) | (refine belowN ?_ _) | (refine Below.trans ?_ (Below.mono ‹Below _ _ _› (by first | omega | (simp; omega) | (simp; done))))))⟩
    · have HV : Hid (cmpN x y = 1) := (by show _ = _; exact hx.cmp_gt hy h : _)
      have d1 : decide ((l.length : Int) < (m.length : Int)) = false := decide_eq_false (by omega)
      clear hr hr2 hx hy hne
      go_enter Try.func79, Try.ntmps79
      go_wp2
      go_ret
      exact ⟨ret_int HV.out.symm, by (repeat (first | exact Below.refl _ _ | assumption | (refine Below.alloc ?_ (by first | omega | (simp; omega) | (simp; done)) _) | (refine Below.setCell ?_ (by first | omega | (simp; omega) | (simp; done)) _) | (refine Below.drew ?_) | (refine belowN ?_ _) | (refine Below.trans ?_ (Below.mono ‹Below _ _ _› (by first | omega | (simp; omega) | (simp; done))))))⟩
/-- a value reads as the digits of a number -/
def DgV (X k : Nat) (v : Value) (W : World) : Prop := ∃ (L : List Nat) (A : Option Addr) (c : Nat), v = .slice A L.length c ∧ Rep 10000 L X ∧ L.length ≤ k ∧ Sl intCell 1 W W.heap.size A (dI L)
theorem DgV.below {X k : Nat} {v : Value} {W W' : World} (h : DgV X k v W) (hb : Below W.heap.size W W') : DgV X k v W' := by
  obtain ⟨L, A, c, h1, h2, h3, h4⟩ := h
  exact ⟨L, A, c, h1, h2, h3, (h4.below hb).more hb.size⟩
theorem rep_1 : Rep 10000 [1] 1 := ⟨fun w h => by rw [List.mem_singleton.1 h]; decide, by simp [valD], fun x h => by simp at h; omega⟩
theorem sl_one1 {W : World} {B b : Nat} (hb : b < B) (h : Blk W b #[.int .i64 1] 3) : Sl intCell 1 W B (some ⟨b, 0, none⟩) (dI [1]) := by
  refine ⟨by rw [flat_int]; simp [dI], fun _ => ⟨b, 0, rfl, hb, fun j u hu => ?_⟩⟩
  rw [flat_int] at hu
  have c0 := h.cell 0
  simp at c0
  cases j with
  | zero => simp [dI] at hu; subst hu; exact c0
  | succ j => simp [dI] at hu
/-- factors of a product -/
structure Facs (W : World) (B : Nat) (A : Option Addr) (l : List Int) : Prop where
  sl : Sl intCell 1 W B A l
  len : l.length ≤ 1000
  bd : ∀ x ∈ l, 0 ≤ x ∧ x ≤ 100000
theorem Facs.below {W W' : World} {B : Nat} {A : Option Addr} {l : List Int} (h : Facs W B A l) (hb : Below B W W') : Facs W' B A l := ⟨h.sl.below hb, h.len, h.bd⟩
theorem Facs.more {W : World} {B B' : Nat} {A : Option Addr} {l : List Int} (h : Facs W B A l) (hb : B ≤ B') : Facs W B' A l := ⟨h.sl.more hb, h.len, h.bd⟩
set_option maxRecDepth 100000 in
set_option maxHeartbeats 4000000 in
theorem rproducts_any (A1 : Option Addr) (c1 : Nat) (l1 : List Int) (A2 : Option Addr) (c2 : Nat) (l2 : List Int) (A3 : Option Addr) (c3 : Nat) (l3 : List Int) (A4 : Option Addr) (c4 : Nat) (l4 : List Int) (w : World)
    (h1 : Facs w w.heap.size A1 l1) (h2 : Facs w w.heap.size A2 l2) (h3 : Facs w w.heap.size A3 l3) (h4 : Facs w w.heap.size A4 l4) :
    Calls Try.prog 49 #[.slice A1 l1.length c1, .slice A2 l2.length c2, .slice A3 l3.length c3, .slice A4 l4.length c4] w fun e w' => e = .returned (.int .i64 (cmpN (prodI l1 * prodI l2) (prodI l3 * prodI l4))) ∧ Below w.heap.size w w' := by
  have F1 := Lib.hid h1; have F2 := Lib.hid h2; have F3 := Lib.hid h3; have F4 := Lib.hid h4
  have z1 := h1.len; have z2 := h2.len; have z3 := h3.len; have z4 := h4.len
  clear h1 h2 h3 h4
  go_enter Try.func49, Try.ntmps49
  go_wp2
  go_loopw [9, 11] (fun xv iv W => ∃ i : Nat, i ≤ l1.length ∧ iv = .int .i64 (i : Int) ∧ Hid (DgV (1 * prodI (l1.take i)) (1 + 2 * i) xv W) ∧ Hid (DgV 1 1 (.slice (some ⟨w.heap.size + 1, 0, none⟩) 1 1) W) ∧ Below w.heap.size w W) (fun _ iv _ => l1.length - (intOf iv).toNat)
  case atStart => exact ⟨0, by omega, rfl, Lib.hid ⟨[1], _, _, rfl, rep_1, by simp, sl_one1 (by simp; omega) ((Blk.new w _ _).alloc _)⟩, Lib.hid ⟨[1], _, _, rfl, rep_1, by simp, sl_one1 (by simp) (Blk.at_ (by simp))⟩, by (repeat (first | exact Below.refl _ _ | assumption | (refine Below.alloc ?_ (by first | omega | (simp; omega) | (simp; done)) _) | (refine Below.setCell ?_ (by first | omega | (simp; omega) | (simp; done)) _) | (refine Below.drew ?_) | (refine belowN ?_ _) | (refine Below.trans ?_ (Below.mono ‹Below _ _ _› (by first | omega | (simp; omega) | (simp; done))))))⟩
  case round =>
    obtain ⟨i, hi, rfl, HX, HY, hb⟩ := hrel
    by_cases hlt : i < l1.length
    · have hlen := F1.out.len
      obtain ⟨L, Ap, cp, rfl, h1, h2, h3⟩ := HX.out
      obtain ⟨b, f, rfl, hbb, hc⟩ := (F1.out.sl.below hb).int_at hlt
      obtain ⟨y1, y2⟩ := F1.out.bd _ (List.getElem_mem hlt)
      obtain ⟨n, hn⟩ : ∃ n : Nat, l1[i] = (n : Int) := ⟨l1[i].toNat, by omega⟩
      rw [hn] at hc y1 y2
      have HPR : Hid (1 * prodI (l1.take (i + 1)) = 1 * prodI (l1.take i) * n) := (by show _ = _; rw [prodI_take hlt, hn, Int.toNat_natCast, Nat.mul_assoc] : _)
      clear hn
      have HT := Lib.hid (fun W (hW : Below wr.heap.size wr W) => rtimes_any Ap cp L _ n W (by omega) (by omega) h1 ((h3.below hW).more hW.size))
      obtain ⟨X, hX⟩ : ∃ X, X = 1 * prodI (l1.take i) := ⟨_, rfl⟩
      rw [← hX] at HT HPR
      have i0 : (0 : Int) ≤ (i : Int) := by omega
      have i1 : (i : Int) < (l1.length : Int) := by omega
      clear h1 h3 hX HX
      go_wp2_with (first | (go_at_call 78; refine (HT.out _ (by (repeat (first | exact Below.refl _ _ | assumption | (refine Below.alloc ?_ (by first | omega | (simp; omega) | (simp; done)) _) | (refine Below.setCell ?_ (by first | omega | (simp; omega) | (simp; done)) _) | (refine Below.drew ?_) | (refine belowN ?_ _) | (refine Below.trans ?_ (Below.mono ‹Below _ _ _› (by first | omega | (simp; omega) | (simp; done)))))))).mono ?_; rintro _ w1 ⟨L2, A2, c2, g1, g2, rfl, g3, g4⟩) | fail)
      refine ⟨⟨i + 1, by omega, by go_num, Lib.hid ⟨L2, A2, c2, rfl, by rw [HPR.out]; exact g1, by omega, g3⟩, Lib.hid (HY.out.below g4), bl2 hb g4⟩, ?_⟩
      simp [intOf]; omega
    · obtain rfl : i = l1.length := by omega
      rw [List.take_length, Nat.one_mul] at HX
      go_wp2
      go_loopw [9, 12] (fun xv iv W => ∃ i : Nat, i ≤ l2.length ∧ iv = .int .i64 (i : Int) ∧ Hid (DgV (prodI l1 * prodI (l2.take i)) (2001 + 2 * i) xv W) ∧ Hid (DgV 1 1 (.slice (some ⟨w.heap.size + 1, 0, none⟩) 1 1) W) ∧ Below w.heap.size w W) (fun _ iv _ => l2.length - (intOf iv).toNat)
      case atStart => exact ⟨0, by omega, rfl, by obtain ⟨L, A, c, e1, e2, e3, e4⟩ := HX.out; exact Lib.hid ⟨L, A, c, e1, by simpa [prodI] using e2, by omega, e4⟩, HY, hb⟩
      case round =>
        clear HX HY hb hlt hi
        obtain ⟨i, hi, rfl, HX, HY, hb⟩ := hrel
        by_cases hlt : i < l2.length
        · have hlen := F2.out.len
          obtain ⟨L, Ap, cp, rfl, h1, h2, h3⟩ := HX.out
          obtain ⟨b, f, rfl, hbb, hc⟩ := (F2.out.sl.below hb).int_at hlt
          obtain ⟨y1, y2⟩ := F2.out.bd _ (List.getElem_mem hlt)
          obtain ⟨n, hn⟩ : ∃ n : Nat, l2[i] = (n : Int) := ⟨l2[i].toNat, by omega⟩
          rw [hn] at hc y1 y2
          have HPR : Hid (prodI l1 * prodI (l2.take (i + 1)) = prodI l1 * prodI (l2.take i) * n) := (by show _ = _; rw [prodI_take hlt, hn, Int.toNat_natCast, Nat.mul_assoc] : _)
          clear hn
          have HT := Lib.hid (fun W (hW : Below wr.heap.size wr W) => rtimes_any Ap cp L _ n W (by omega) (by omega) h1 ((h3.below hW).more hW.size))
          obtain ⟨X, hX⟩ : ∃ X, X = prodI l1 * prodI (l2.take i) := ⟨_, rfl⟩
          rw [← hX] at HT HPR
          have i0 : (0 : Int) ≤ (i : Int) := by omega
          have i1 : (i : Int) < (l2.length : Int) := by omega
          clear h1 h3 hX HX
          go_wp2_with (first | (go_at_call 78; refine (HT.out _ (by (repeat (first | exact Below.refl _ _ | assumption | (refine Below.alloc ?_ (by first | omega | (simp; omega) | (simp; done)) _) | (refine Below.setCell ?_ (by first | omega | (simp; omega) | (simp; done)) _) | (refine Below.drew ?_) | (refine belowN ?_ _) | (refine Below.trans ?_ (Below.mono ‹Below _ _ _› (by first | omega | (simp; omega) | (simp; done)))))))).mono ?_; rintro _ w1 ⟨L2, A2, c2, g1, g2, rfl, g3, g4⟩) | fail)
          refine ⟨⟨i + 1, by omega, by go_num, Lib.hid ⟨L2, A2, c2, rfl, by rw [HPR.out]; exact g1, by omega, g3⟩, Lib.hid (HY.out.below g4), bl2 hb g4⟩, ?_⟩
          simp [intOf]; omega
        · obtain rfl : i = l2.length := by omega
          rw [List.take_length] at HX
          obtain ⟨L0, A0, c0, rfl, e2, e3, e4⟩ := HX.out
          clear HX
          have HX : Hid (DgV (prodI l1 * prodI l2) 4001 (.slice A0 L0.length c0) wr) := Lib.hid ⟨L0, A0, c0, rfl, e2, by omega, e4⟩
          clear e2 e3 e4
          go_wp2
          go_loopw [10, 13] (fun yv iv W => ∃ i : Nat, i ≤ l3.length ∧ iv = .int .i64 (i : Int) ∧ Hid (DgV (prodI l1 * prodI l2) 4001 (.slice A0 L0.length c0) W) ∧ Hid (DgV (1 * prodI (l3.take i)) (1 + 2 * i) yv W) ∧ Below w.heap.size w W) (fun _ iv _ => l3.length - (intOf iv).toNat)
          case atStart => exact ⟨0, by omega, rfl, HX, HY, hb⟩
          case round =>
            clear HX HY hb hlt hi
            obtain ⟨i, hi, rfl, HY, HX, hb⟩ := hrel
            by_cases hlt : i < l3.length
            · have hlen := F3.out.len
              obtain ⟨L, Ap, cp, rfl, h1, h2, h3⟩ := HX.out
              obtain ⟨b, f, rfl, hbb, hc⟩ := (F3.out.sl.below hb).int_at hlt
              obtain ⟨y1, y2⟩ := F3.out.bd _ (List.getElem_mem hlt)
              obtain ⟨n, hn⟩ : ∃ n : Nat, l3[i] = (n : Int) := ⟨l3[i].toNat, by omega⟩
              rw [hn] at hc y1 y2
              have HPR : Hid (1 * prodI (l3.take (i + 1)) = 1 * prodI (l3.take i) * n) := (by show _ = _; rw [prodI_take hlt, hn, Int.toNat_natCast, Nat.mul_assoc] : _)
              clear hn
              have HT := Lib.hid (fun W (hW : Below wr.heap.size wr W) => rtimes_any Ap cp L _ n W (by omega) (by omega) h1 ((h3.below hW).more hW.size))
              obtain ⟨X, hX⟩ : ∃ X, X = 1 * prodI (l3.take i) := ⟨_, rfl⟩
              rw [← hX] at HT HPR
              have i0 : (0 : Int) ≤ (i : Int) := by omega
              have i1 : (i : Int) < (l3.length : Int) := by omega
              clear h1 h3 hX HX
              go_wp2_with (first | (go_at_call 78; refine (HT.out _ (by (repeat (first | exact Below.refl _ _ | assumption | (refine Below.alloc ?_ (by first | omega | (simp; omega) | (simp; done)) _) | (refine Below.setCell ?_ (by first | omega | (simp; omega) | (simp; done)) _) | (refine Below.drew ?_) | (refine belowN ?_ _) | (refine Below.trans ?_ (Below.mono ‹Below _ _ _› (by first | omega | (simp; omega) | (simp; done)))))))).mono ?_; rintro _ w1 ⟨L2, A2, c2, g1, g2, rfl, g3, g4⟩) | fail)
              refine ⟨⟨i + 1, by omega, by go_num, Lib.hid (HY.out.below g4), Lib.hid ⟨L2, A2, c2, rfl, by rw [HPR.out]; exact g1, by omega, g3⟩, bl2 hb g4⟩, ?_⟩
              simp [intOf]; omega
            · obtain rfl : i = l3.length := by omega
              rw [List.take_length, Nat.one_mul] at HX
              go_wp2
              go_loopw [10, 14] (fun yv iv W => ∃ i : Nat, i ≤ l4.length ∧ iv = .int .i64 (i : Int) ∧ Hid (DgV (prodI l1 * prodI l2) 4001 (.slice A0 L0.length c0) W) ∧ Hid (DgV (prodI l3 * prodI (l4.take i)) (2001 + 2 * i) yv W) ∧ Below w.heap.size w W) (fun _ iv _ => l4.length - (intOf iv).toNat)
              case atStart => exact ⟨0, by omega, rfl, HY, by obtain ⟨L, A, c, e1, e2, e3, e4⟩ := HX.out; exact Lib.hid ⟨L, A, c, e1, by simpa [prodI] using e2, by omega, e4⟩, hb⟩
              case round =>
                clear HX HY hb hlt hi
                obtain ⟨i, hi, rfl, HY, HX, hb⟩ := hrel
                by_cases hlt : i < l4.length
                · have hlen := F4.out.len
                  obtain ⟨L, Ap, cp, rfl, h1, h2, h3⟩ := HX.out
                  obtain ⟨b, f, rfl, hbb, hc⟩ := (F4.out.sl.below hb).int_at hlt
                  obtain ⟨y1, y2⟩ := F4.out.bd _ (List.getElem_mem hlt)
                  obtain ⟨n, hn⟩ : ∃ n : Nat, l4[i] = (n : Int) := ⟨l4[i].toNat, by omega⟩
                  rw [hn] at hc y1 y2
                  have HPR : Hid (prodI l3 * prodI (l4.take (i + 1)) = prodI l3 * prodI (l4.take i) * n) := (by show _ = _; rw [prodI_take hlt, hn, Int.toNat_natCast, Nat.mul_assoc] : _)
                  clear hn
                  have HT := Lib.hid (fun W (hW : Below wr.heap.size wr W) => rtimes_any Ap cp L _ n W (by omega) (by omega) h1 ((h3.below hW).more hW.size))
                  obtain ⟨X, hX⟩ : ∃ X, X = prodI l3 * prodI (l4.take i) := ⟨_, rfl⟩
                  rw [← hX] at HT HPR
                  have i0 : (0 : Int) ≤ (i : Int) := by omega
                  have i1 : (i : Int) < (l4.length : Int) := by omega
                  clear h1 h3 hX HX
                  go_wp2_with (first | (go_at_call 78; refine (HT.out _ (by (repeat (first | exact Below.refl _ _ | assumption | (refine Below.alloc ?_ (by first | omega | (simp; omega) | (simp; done)) _) | (refine Below.setCell ?_ (by first | omega | (simp; omega) | (simp; done)) _) | (refine Below.drew ?_) | (refine belowN ?_ _) | (refine Below.trans ?_ (Below.mono ‹Below _ _ _› (by first | omega | (simp; omega) | (simp; done)))))))).mono ?_; rintro _ w1 ⟨L2, A2, c2, g1, g2, rfl, g3, g4⟩) | fail)
                  refine ⟨⟨i + 1, by omega, by go_num, Lib.hid (HY.out.below g4), Lib.hid ⟨L2, A2, c2, rfl, by rw [HPR.out]; exact g1, by omega, g3⟩, bl2 hb g4⟩, ?_⟩
                  simp [intOf]; omega
                · obtain rfl : i = l4.length := by omega
                  rw [List.take_length] at HX
                  obtain ⟨L, A, c, rfl, e2, e3, e4⟩ := HX.out
                  obtain ⟨L', A', c', f1, f2, f3, f4⟩ := HY.out
                  obtain ⟨rfl, f5, rfl⟩ : A0 = A' ∧ L0.length = L'.length ∧ c0 = c' := by simpa using f1
                  have HC := Lib.hid (fun W (hW : Below wr.heap.size wr W) => rcmp_any A0 c0 L' A c L _ _ W (by omega) (by omega) f2 e2 ((f4.below hW).more hW.size) ((e4.below hW).more hW.size))
                  rw [← f5] at HC
                  clear e2 f2 e4 f4 HX HY f1 f5
                  go_wp2_with (first | (go_at_call 79; refine (HC.out _ (by (repeat (first | exact Below.refl _ _ | assumption | (refine Below.alloc ?_ (by first | omega | (simp; omega) | (simp; done)) _) | (refine Below.setCell ?_ (by first | omega | (simp; omega) | (simp; done)) _) | (refine Below.drew ?_) | (refine belowN ?_ _) | (refine Below.trans ?_ (Below.mono ‹Below _ _ _› (by first | omega | (simp; omega) | (simp; done)))))))).mono ?_; rintro _ w1 ⟨rfl, g4⟩) | fail)
                  go_ret
                  exact ⟨rfl, bl2 hb g4⟩
end Go.Proofs.Ytiikkcifdhcejaa

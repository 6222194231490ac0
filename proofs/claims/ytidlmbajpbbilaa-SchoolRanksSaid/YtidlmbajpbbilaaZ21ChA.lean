/- A helper of the laws: a chart of a region by numbers. -/
import Derived.Test.YtidlmbajpbbilaaZ20HlF
namespace Go.Proofs.Ytidlmbajpbbilaa
open Go.RowKit

abbrev byteCell (b : Int) : List Value := [.int .u8 b]
/-- the figures below j of a set -/
def figL (x : Int) (j : Nat) : List Int := ((List.range j).filter fun (f : Nat) => bitB x (f : Int)).map fun (f : Nat) => (f : Int)
theorem figL_succ (x : Int) (j : Nat) : figL x (j + 1) = figL x j ++ if bitB x (j : Int) then [(j : Int)] else [] := by
  unfold figL
  rw [List.range_succ, List.filter_append, List.map_append]
  cases h : bitB x (j : Int) <;> simp [h]
theorem figL_len (x : Int) (j : Nat) : (figL x j).length ≤ j := by
  unfold figL
  rw [List.length_map]
  exact Nat.le_trans (List.length_filter_le _ _) (by simp)
theorem figL_mem {x f : Int} {j : Nat} (h : f ∈ figL x j) : 0 ≤ f ∧ f < j ∧ bitB x f = true := by
  unfold figL at h
  obtain ⟨i, hi, rfl⟩ := List.mem_map.1 h
  obtain ⟨h1, h2⟩ := List.mem_filter.1 hi
  have := List.mem_range.1 h1
  exact ⟨by omega, by omega, h2⟩
theorem figL_nil {x : Int} {j : Nat} (h : figL x j = []) : ∀ f : Nat, f < j → bitB x (f : Int) = false := fun f hf => by
  cases hb : bitB x (f : Int) with
  | false => rfl
  | true =>
    have : (f : Int) ∈ figL x j := List.mem_map.2 ⟨f, List.mem_filter.2 ⟨List.mem_range.2 hf, hb⟩, rfl⟩
    rw [h] at this; cases this
/-- figures, each of its set -/
def Picked (sets L : List Int) : Prop := ∀ i : Nat, (h : i < L.length) → ∃ h' : i < sets.length, 0 ≤ L[i] ∧ L[i] ≤ 63 ∧ bitB sets[i] L[i] = true
theorem picked_succ {sets L : List Int} {f : Int} (h : Picked sets L) (hl : L.length < sets.length) (h0 : 0 ≤ f) (h1 : f ≤ 63) (hb : bitB sets[L.length] f = true) : Picked sets (L ++ [f]) := fun i hi => by
  rw [List.length_append, List.length_singleton] at hi
  by_cases h2 : i < L.length
  · obtain ⟨h', h3⟩ := h i h2
    refine ⟨h', ?_⟩
    rw [List.getElem_append_left h2]; exact h3
  · obtain rfl : i = L.length := by omega
    refine ⟨hl, ?_⟩
    simp only [List.getElem_append_right (Nat.le_refl _), Nat.sub_self, List.getElem_cons_zero]
    exact ⟨h0, h1, hb⟩
/-- a chart of a region, or that there is none -/
def RetCh (sets : List Int) (w : World) (e : Ending) (w' : World) : Prop := ∃ (A : Option Addr) (c : Nat) (b : Bool) (L : List Int), e = .returned (.tuple #[.slice A L.length c, .bool b]) ∧ Sl intCell 1 w' w'.heap.size A L ∧
  (b = true → L.length = sets.length ∧ Picked sets L) ∧ (b = false → L = [] ∧ ∃ x ∈ sets, ∀ f : Nat, f < 64 → bitB x (f : Int) = false) ∧ (A = none → c = 0) ∧ Below w.heap.size w w'
set_option maxRecDepth 100000 in
set_option maxHeartbeats 4000000 in
theorem chartOf_any (A : Option Addr) (c : Nat) (sets : List Int) (Bq : Option Addr) (bc : Nat) (bs : List Int) (w : World) (hA : Sl setCell1 1 w w.heap.size A sets) (hl : sets.length ≤ 1000) (ho : ∀ x ∈ sets, IsU64 x)
    (hB : Sl byteCell 1 w w.heap.size Bq bs) (hb : ∀ v ∈ bs, 0 ≤ v ∧ v < 256) (hbl : bs.length ≤ 1000000) : Calls Try.prog 31 #[.slice A sets.length c, .slice Bq bs.length bc] w (RetCh sets w) := by
  obtain ⟨i1, hi1, iy0, iy1, iy2⟩ := info_parts infoInt
  have HAA := Lib.hid hA; have HO := Lib.hid ho; have HB := Lib.hid hB; have HV := Lib.hid hb
  clear hA ho hB hb
  go_enter Try.func31, Try.ntmps31
  go_wp2
  refine wp_world (fun W => Below w.heap.size w W ∧ w.heap.size < W.heap.size ∧ W.ownsRow w.heap.size 3 1 (.slice (some ⟨w.heap.size, 0, none⟩) 0 0) 0 []) ?_ ?_
  · refine ⟨by (repeat (first | exact Below.refl _ _ | assumption | (refine Below.alloc ?_ (by first | omega | (simp; omega) | (simp; done)) _) | (refine Below.setCell ?_ (by first | omega | (simp; omega) | (simp; done)) _) | (refine Below.drew ?_) | (refine belowN ?_ _) | (refine Below.trans ?_ (Below.mono ‹Below _ _ _› (by first | omega | (simp; omega) | (simp; done)))))), by simp, ?_⟩
    have := World.ownsRow_made (e := 3) (size := 1) w #[] 0 (base := w.heap.size) (by simp) (by simp) (by simp)
    simpa using this
  rintro w0 ⟨hbw, hz0, hown0⟩
  have HO0 := Lib.hid hown0
  go_loopw [6, 7] (fun v i wr => ∃ L : List Int, L.length ≤ sets.length ∧ i = .int .i64 L.length ∧ Hid (wr.ownsRow w.heap.size 3 1 v L.length (flat intCell L)) ∧ Hid (Picked sets L) ∧ Below w.heap.size w wr ∧ w.heap.size < wr.heap.size) (fun _ i _ => sets.length - (intOf i).toNat)
  case atStart => exact ⟨[], by simp, rfl, HO0, (fun i hi => by cases hi), hbw, hz0⟩
  case round =>
    obtain ⟨L, hj, rfl, hown, hpk, hbr, hzr⟩ := hrel
    rename World => wo
    obtain ⟨j, hjl⟩ : ∃ j, j = L.length := ⟨_, rfl⟩
    rw [← hjl] at hj hown ⊢
    have HJL := Lib.hid hjl
    clear hjl
    by_cases hlt : j < sets.length
    · obtain ⟨ab, ao, rfl, hblk, hcell⟩ := (HAA.out.below hbr).at_ (k := j) (fun _ => rfl) hlt
      have hxb := HO.out _ (List.getElem_mem hlt)
      obtain ⟨x, hx⟩ : ∃ t, sets[j] = t := ⟨_, rfl⟩
      have HX := Lib.hid hx
      rw [hx] at hcell hxb
      have HXB := Lib.hid hxb
      unfold IsU64 at hxb
      have c0 : wo.cell? ⟨ab, ao + j, none⟩ = some (.int .u64 x) := by have := hcell 0 _ rfl; simpa using this
      have hj0 : (0 : Int) ≤ (j : Int) := by omega
      have hj1 : (j : Int) < (sets.length : Int) := by omega
      have hab : ab < wo.heap.size := by omega
      obtain ⟨hx0, hx1⟩ := hxb
      clear hcell hx
      go_wp2
      refine gen_w (fun W => Below wo.heap.size wo W ∧ wo.heap.size < W.heap.size ∧ W.ownsRow wo.heap.size 3 1 (.slice (some ⟨wo.heap.size, 0, none⟩) 0 0) 0 []) ⟨by (repeat (first | exact Below.refl _ _ | assumption | (refine Below.alloc ?_ (by first | omega | (simp; omega) | (simp; done)) _) | (refine Below.setCell ?_ (by first | omega | (simp; omega) | (simp; done)) _) | (refine Below.drew ?_) | (refine belowN ?_ _) | (refine Below.trans ?_ (Below.mono ‹Below _ _ _› (by first | omega | (simp; omega) | (simp; done)))))), by simp, by
        have := World.ownsRow_made (e := 3) (size := 1) wo #[] 0 (base := wo.heap.size) (by simp) (by simp) (by simp)
        simpa using this⟩ ?_
      rintro W1 ⟨hb1, hz1, hown1⟩
      have HO1 := Lib.hid hown1
      clear hown1
      go_loopw [8, 9] (fun v i wr => ∃ f : Nat, f ≤ 64 ∧ i = .int .i64 f ∧ Below wo.heap.size wo wr ∧ wo.heap.size < wr.heap.size ∧ Hid (wr.ownsRow wo.heap.size 3 1 v (figL x f).length (flat intCell (figL x f)))) (fun _ i _ => 64 - (intOf i).toNat)
      case atStart => exact ⟨0, by omega, rfl, hb1, hz1, HO1⟩
      case round =>
        obtain ⟨f, hf, rfl, hbi, hzi, howi⟩ := hrel
        have c0 := (hbi.cell (p := ⟨ab, ao + j, none⟩) hab).trans c0
        by_cases hlt2 : f < 64
        · have hbt := bit1_u64 x (f : Int) HXB.out
          simp only [Int.toNat_natCast] at hbt
          have hf0 : (0 : Int) ≤ (f : Int) := by omega
          have hf1 : (f : Int) ≤ 63 := by omega
          have hw3 : IntKind.u64.wrap (f : Int) = (f : Int) := IntWalk.u64_in _ ⟨by omega, by omega⟩
          have hfl := figL_len x f
          have HFS := Lib.hid (figL_succ x f)
          cases hbit : bitB x (f : Int) with
          | false =>
            rw [hbit] at hbt HFS
            go_wp2
            go_roundw
            case rel => exact ⟨f + 1, by omega, by go_num, hbi, hzi, by rw [HFS.out]; simpa using howi⟩
            case measure => simp [intOf] <;> omega
          | true =>
            rw [hbit] at hbt HFS
            have HC5 : Hid (∀ (i : Nat) (u : Value), [Value.int .i64 (f : Int)][i]? = some u → (wr.alloc (.cells #[.int .i64 (f : Int)] 3)).cell? ((⟨wr.heap.size, 0, none⟩ : Addr).add i) = some u) := (fun i u hu => (by rw [Go.WideShapes.add_plain, Nat.zero_add, (Blk.new wr _ _).cell i, ← hu]; simp))
            go_wp2_with (at_builtin; refine wpList_append_own _ rfl _ _ 28 rfl wo.heap.size 3 i1 (.int .i64 0) 1 8 uInts hi1 iy0 iy1 iy2 rfl (by decide) _ _ _ rfl (howi.out.alloc _) ⟨wr.heap.size, 0, none⟩ 1 1 [.int .i64 (f : Int)] rfl rfl HC5.out (by simp [Value.oneCell']) (by unfold maxLen; omega) (by omega) (by simp; omega) ?_; intro v' w5 hown5 hgrow _)
            have hb45 : Below wo.heap.size wr w5 := ((Below.refl _ _).alloc (by omega) _).grown hgrow (by simp; omega) (fun g hg => own_ge howi.out hg)
            have hbz5 : wr.heap.size < w5.heap.size := by have := hgrow.size; simp at this; omega
            go_wp2
            go_roundw
            case rel => exact ⟨f + 1, by omega, by go_num, hbi.trans hb45, by omega, by
              have e : figL x (f + 1) = figL x f ++ [(f : Int)] := by rw [HFS.out]; rfl
              rw [e]
              show World.ownsRow _ _ _ _ _ _ _
              simpa [flat] using hown5⟩
            case measure => simp [intOf] <;> omega
        · obtain rfl : f = 64 := by omega
          obtain ⟨Am, cm, rfl, hsm⟩ := Sl.of_own howi.out
          have hbiw : Below w.heap.size w wr := bl2 hbr hbi
          have hok := hown.out.kept (grown_of_below hbi) (by cases hv : u6.ownBlock <;> simp)
          have HOK := Lib.hid hok
          clear hok
          by_cases hm : figL x 64 = []
          · have hno := figL_nil hm
            have hmem : x ∈ sets := by have h := HX.out; subst h; exact List.getElem_mem hlt
            rw [hm, List.length_nil]
            clear howi hsm
            go_wp2
            refine bodyPost_ret (v := .tuple #[.slice none 0 0, .bool false]) (by simp [results, Try.results31, go_sem]) rfl ?_
            exact ⟨none, 0, false, [], rfl, sl_nil, (fun h => by cases h), (fun _ => ⟨rfl, x, hmem, hno⟩), (fun _ => rfl), hbiw⟩
          · have hm1 := figL_len x 64
            obtain ⟨M, hM⟩ : ∃ M, M = figL x 64 := ⟨_, rfl⟩
            have hmem : ∀ f ∈ M, 0 ≤ f ∧ f < 64 ∧ bitB x f = true := fun f hf => by rw [hM] at hf; have := figL_mem hf; simpa using this
            rw [← hM] at hm hm1 hsm howi ⊢
            clear hM
            have hm0 : 0 < M.length := List.length_pos_iff.2 hm
            have HME := Lib.hid hmem
            clear hm hmem
            by_cases hb0 : bs.length = 0
            · have d1 : decide (0 < (bs.length : Int)) = false := decide_eq_false (by omega)
              have d1' : decide (0 < bs.length) = false := decide_eq_false (by omega)
              have hb1' : ¬ 0 < bs.length := by omega
              clear hb0
              obtain ⟨yb, yo, rfl, hyb, hyc⟩ := hsm.at_ (k := 0) (fun _ => rfl) hm0
              have y0 : wr.cell? ⟨yb, yo, none⟩ = some (.int .i64 M[0]) := by have := hyc 0 _ rfl; simpa using this
              have hf := HME.out _ (List.getElem_mem hm0)
              obtain ⟨f, hfe⟩ : ∃ f, f = M[0] := ⟨_, rfl⟩
              rw [← hfe] at y0 hf
              clear hyc hsm howi hfe
              have hjl := HJL.out
              have HC5 : Hid (∀ (i : Nat) (u : Value), [Value.int .i64 f][i]? = some u → (wr.alloc (.cells #[.int .i64 f] 3)).cell? ((⟨wr.heap.size, 0, none⟩ : Addr).add i) = some u) := (fun i u hu => (by rw [Go.WideShapes.add_plain, Nat.zero_add, (Blk.new wr _ _).cell i, ← hu]; simp))
              clear hjl
              go_wp2_with (at_builtin; refine wpList_append_own _ rfl _ _ 28 rfl w.heap.size 3 i1 (.int .i64 0) 1 8 uInts hi1 iy0 iy1 iy2 rfl (by decide) _ _ _ rfl (HOK.out.alloc _) ⟨wr.heap.size, 0, none⟩ 1 1 [.int .i64 f] rfl rfl HC5.out (by simp [Value.oneCell']) (by unfold maxLen; omega) (by omega) (by simp; omega) ?_; intro v' w5 hown5 hgrow _)
              have hb45 : Below w.heap.size w w5 := (bla hbiw).grown hgrow (by simp; have := hbiw.size; omega) (fun g hg => own_ge hown.out hg)
              have hbz5 : wr.heap.size < w5.heap.size := by have := hgrow.size; simp at this; omega
              go_wp2
              go_roundw
              case rel => exact ⟨L ++ [f], by rw [List.length_append, ← HJL.out]; simp; omega, by rw [List.length_append, ← HJL.out]; simp, by
                rw [List.length_append, ← HJL.out]
                show World.ownsRow _ _ _ _ _ _ _
                simpa [flat] using hown5, picked_succ hpk.out (by rw [← HJL.out]; exact hlt) hf.1 (by omega) (by
                  have h := HX.out
                  have e : sets[L.length]'(by rw [← HJL.out]; exact hlt) = x := by rw [← h]; congr 1; exact HJL.out.symm
                  rw [e]; exact hf.2.2), hb45, by omega⟩
              case measure => simp [intOf] <;> omega
            · have hnb : 0 < bs.length := by omega
              have hr : j % bs.length < bs.length := Nat.mod_lt _ hnb
              obtain ⟨qb, qo, rfl, hqb, hqc⟩ := (HB.out.below hbiw).at_ (k := j % bs.length) (fun _ => rfl) hr
              have hv := HV.out _ (List.getElem_mem hr)
              obtain ⟨v, hve⟩ : ∃ v, v = bs[j % bs.length] := ⟨_, rfl⟩
              rw [← hve] at hqc hv
              have z0 : wr.cell? ⟨qb, qo + j % bs.length, none⟩ = some (.int .u8 v) := by have := hqc 0 _ rfl; simpa using this
              obtain ⟨vn, rfl⟩ := Int.eq_ofNat_of_zero_le hv.1
              have hr2 : vn % M.length < M.length := Nat.mod_lt _ hm0
              obtain ⟨yb, yo, rfl, hyb, hyc⟩ := hsm.at_ (k := vn % M.length) (fun _ => rfl) hr2
              have y0 : wr.cell? ⟨yb, yo + vn % M.length, none⟩ = some (.int .i64 M[vn % M.length]) := by have := hyc 0 _ rfl; simpa using this
              have hf := HME.out _ (List.getElem_mem hr2)
              obtain ⟨f, hfe⟩ : ∃ f, f = M[vn % M.length] := ⟨_, rfl⟩
              rw [← hfe] at y0 hf
              have d1 : decide (0 < (bs.length : Int)) = true := by simp; omega
              have hvn : vn < 256 := by omega
              clear hyc hqc hsm howi hfe hve
              have hjl := HJL.out
              have HC5 : Hid (∀ (i : Nat) (u : Value), [Value.int .i64 f][i]? = some u → (wr.alloc (.cells #[.int .i64 f] 3)).cell? ((⟨wr.heap.size, 0, none⟩ : Addr).add i) = some u) := (fun i u hu => (by rw [Go.WideShapes.add_plain, Nat.zero_add, (Blk.new wr _ _).cell i, ← hu]; simp))
              clear hjl
              go_wp2_with (at_builtin; refine wpList_append_own _ rfl _ _ 28 rfl w.heap.size 3 i1 (.int .i64 0) 1 8 uInts hi1 iy0 iy1 iy2 rfl (by decide) _ _ _ rfl (HOK.out.alloc _) ⟨wr.heap.size, 0, none⟩ 1 1 [.int .i64 f] rfl rfl HC5.out (by simp [Value.oneCell']) (by unfold maxLen; omega) (by omega) (by simp; omega) ?_; intro v' w5 hown5 hgrow _)
              have hb45 : Below w.heap.size w w5 := (bla hbiw).grown hgrow (by simp; have := hbiw.size; omega) (fun g hg => own_ge hown.out hg)
              have hbz5 : wr.heap.size < w5.heap.size := by have := hgrow.size; simp at this; omega
              go_wp2
              go_roundw
              case rel => exact ⟨L ++ [f], by rw [List.length_append, ← HJL.out]; simp; omega, by rw [List.length_append, ← HJL.out]; simp, by
                rw [List.length_append, ← HJL.out]
                show World.ownsRow _ _ _ _ _ _ _
                simpa [flat] using hown5, picked_succ hpk.out (by rw [← HJL.out]; exact hlt) hf.1 (by omega) (by
                  have h := HX.out
                  have e : sets[L.length]'(by rw [← HJL.out]; exact hlt) = x := by rw [← h]; congr 1; exact HJL.out.symm
                  rw [e]; exact hf.2.2), hb45, by omega⟩
              case measure => simp [intOf] <;> omega
    · obtain rfl : j = sets.length := by omega
      obtain ⟨A', c', rfl, hs⟩ := Sl.of_own (l := L) (f := intCell) (by rw [← HJL.out]; exact hown.out)
      have hcap : A' = none → c' = 0 := fun e => by
        rcases hown.out.2 with ⟨hv, _⟩ | ⟨g, cap, cur, hv, _⟩
        · injection hv
        · rw [e] at hv; cases hv
      have HS := Lib.hid hs
      rw [← HJL.out]
      clear hs
      go_wp2
      refine bodyPost_ret (v := .tuple #[.slice A' sets.length c', .bool true]) (by simp [results, Try.results31, go_sem]) rfl ?_
      exact ⟨A', c', true, L, by rw [← HJL.out], HS.out, (fun _ => ⟨HJL.out.symm, hpk.out⟩), (fun h => by cases h), hcap, hbr⟩
end Go.Proofs.Ytidlmbajpbbilaa
namespace Go.Proofs.Ytidlmbajpbbilaa
open Go.RowKit

def Rul.off (r : Rul) (b : Bool) : Rul := if b then { r with kinds := 0 } else r
/-- rules of which some have the kinds 0: those of a set of numbers -/
def offR (O : Nat) : Nat → List Rul → List Rul
  | _, [] => []
  | i, r :: l => r.off (O.testBit i) :: offR O (i + 1) l
theorem offR_len (O : Nat) : ∀ (l : List Rul) (i : Nat), (offR O i l).length = l.length
  | [], _ => rfl
  | _ :: l, i => by simp only [offR, List.length_cons, offR_len O l]
theorem offR_get (O : Nat) : ∀ (l : List Rul) (i j : Nat), (offR O i l)[j]? = (l[j]?).map fun r => r.off (O.testBit (i + j))
  | [], _, _ => rfl
  | r :: l, i, 0 => rfl
  | r :: l, i, j + 1 => by
    simp only [offR, List.getElem?_cons_succ, offR_get O l (i + 1) j]
    rw [show i + 1 + j = i + (j + 1) by omega]
theorem offR_succ (O : Nat) : ∀ (l : List Rul) (i : Nat) (r : Rul), offR O i (l ++ [r]) = offR O i l ++ [r.off (O.testBit (i + l.length))]
  | [], i, r => rfl
  | x :: l, i, r => by
    simp only [List.cons_append, offR, offR_succ O l (i + 1) r, List.length_cons]
    rw [show i + 1 + l.length = i + (l.length + 1) by omega]
def Sch.offs (s : Sch) (O : Nat) (A : Option Addr) (c : Nat) : Sch := { s with ra := A, rc := c, rules := offR O 0 s.rules }
section
variable {s : Sch} {O : Nat} {A : Option Addr} {c : Nat}
theorem offs_get (i : Nat) : (s.offs O A c).rules[i]? = (s.rules[i]?).map fun r => r.off (O.testBit i) := by
  show (offR O 0 s.rules)[i]? = _
  rw [offR_get, Nat.zero_add]
theorem offs_len : (s.offs O A c).rules.length = s.rules.length := offR_len _ _ _
theorem off_when (r : Rul) (b : Bool) : (r.off b).when_ = r.when_ := by cases b <;> rfl
theorem off_unless (r : Rul) (b : Bool) : (r.off b).unless_ = r.unless_ := by cases b <;> rfl
theorem off_rank (r : Rul) (b : Bool) : (r.off b).rank = r.rank := by cases b <;> rfl
theorem off_says (r : Rul) (b : Bool) : (r.off b).says = r.says := by cases b <;> rfl
theorem kbit_off (r : Rul) (b : Bool) (kind : Int) : kbit (r.off b) kind = (kbit r kind && !b) := by
  cases b with
  | false => simp [Rul.off]
  | true =>
    simp only [Rul.off, if_true, kbit, Bool.not_true, Bool.and_false]
    rw [Int.zero_ediv]; rfl
theorem appl_offs (ch : List Int) : appl (s.offs O A c) ch = appl s ch := by
  funext i; simp only [appl, offs_get]; cases s.rules[i]? <;> simp [off_when]
theorem spks_offs (hold : Nat → Bool) (kind : Int) : ∀ n, spks (s.offs O A c) hold kind n = spks s (fun i => hold i && !O.testBit i) kind n
  | 0 => rfl
  | n + 1 => by
    have ih := spks_offs hold kind n
    funext i
    simp only [spks, offs_get, ih]
    cases s.rules[n]? with
    | none => simp
    | some r =>
      simp only [Option.map_some, kbit_off, off_unless]
      split
      · cases hold n <;> cases O.testBit n <;> simp
      · rfl
theorem sp_offs (hold : Nat → Bool) (kind : Int) : sp (s.offs O A c) hold kind = sp s (fun i => hold i && !O.testBit i) kind := by funext i; simp only [sp, spks_offs]
theorem rnk_offs : rnk (s.offs O A c) = rnk s := by
  funext i; simp only [rnk, offs_get]; cases s.rules[i]? <;> simp [off_rank]
theorem topR_offs (f : Nat → Bool) : ∀ n, topR (s.offs O A c) f n = topR s f n
  | 0 => rfl
  | n + 1 => by simp only [topR, topR_offs f n, rnk_offs]
theorem mainOf_offs (kind : Int) (ch : List Int) : mainOf (s.offs O A c) 0 kind ch = mainOf s O kind ch := by
  funext i
  simp only [mainOf, mainS, topR_offs, rnk_offs, sp_offs, appl_offs, offs_len, Nat.zero_testBit, Bool.not_false, Bool.and_true]
theorem mainN_offs (kind : Int) (ch : List Int) : mainN (s.offs O A c) 0 kind ch = mainN s O kind ch := by simp only [mainN, mainOf_offs, offs_len]
theorem sys_offs : sys (s.offs O A c) = sys s := by
  funext i; simp only [sys, offs_get]; cases s.rules[i]? <;> simp [off_says]
theorem saidTo_offs (L : Nat) : ∀ n, saidTo (s.offs O A c) L n = saidTo s L n
  | 0 => rfl
  | n + 1 => by funext a; simp only [saidTo, saidTo_offs L n, sys_offs]
theorem ansN_offs (kind : Int) (ch : List Int) : ansN (s.offs O A c) 0 kind ch = ansN s O kind ch := by simp only [ansN, ansOf, mainN_offs, offs_len, saidTo_offs]
theorem rulesB_offs : ∀ (l : List Rul) (i : Nat), rulesB s i l = true → rulesB (s.offs O A c) i (offR O i l) = true
  | [], _, _ => rfl
  | r :: l, i, h => by
    simp only [rulesB, offR, Bool.and_eq_true] at *
    refine ⟨?_, rulesB_offs l (i + 1) h.2⟩
    have h1 := h.1
    cases O.testBit i with
    | false => exact h1
    | true =>
      simp only [ruleB, Rul.off, if_true, Bool.and_eq_true] at *
      refine ⟨⟨⟨⟨h1.1.1.1.1, ?_⟩, h1.1.1.2⟩, h1.1.2⟩, h1.2⟩
      have h2 := h1.1.1.1.2
      simp only [inB, decide_eq_true_eq] at h2 ⊢
      have : (s.offs O A c).kinds = s.kinds := rfl
      rw [this]
      omega
theorem schB_offs (h : schB s = true) : schB (s.offs O A c) = true := by
  simp only [schB, Bool.and_eq_true] at *
  refine ⟨?_, rulesB_offs _ _ h.2⟩
  have h1 := h.1
  simp only [baseB, offs_len] at *
  exact h1
theorem offs_oks (h : ∀ r ∈ s.rules, ∀ t ∈ r.when_, t.ok) : ∀ r ∈ (s.offs O A c).rules, ∀ t ∈ r.when_, t.ok := fun r hr t ht => by
  obtain ⟨i, hi, rfl⟩ := List.mem_iff_getElem.1 hr
  have h1 : (s.offs O A c).rules[i]? = some (s.offs O A c).rules[i] := List.getElem?_eq_getElem hi
  rw [offs_get] at h1
  rw [offs_len] at hi
  rw [List.getElem?_eq_getElem hi] at h1
  simp only [Option.map_some, Option.some.injEq] at h1
  rw [← h1, off_when] at ht
  exact h _ (List.getElem_mem hi) t ht
end
/-- a set of numbers below n as a list -/
def bitsB (O n : Nat) : List Bool := (List.range n).map O.testBit
abbrev boolCell (b : Bool) : List Value := [.bool b]
theorem bitsB_len {O n : Nat} : (bitsB O n).length = n := by simp [bitsB]
theorem bitsB_get {O n i : Nat} (h : i < n) : (bitsB O n)[i]? = some (O.testBit i) := by simp [bitsB, h]
theorem bitsB_zero {n : Nat} : bitsB 0 n = List.replicate n false := by
  simp only [bitsB]
  rw [show Nat.testBit 0 = fun _ => false from funext Nat.zero_testBit, List.map_const', List.length_range]
theorem bitsB_set {O n i : Nat} (h : i < n) : (bitsB O n).set i true = bitsB (O ||| 2 ^ i) n := by
  refine List.ext_getElem? fun j => ?_
  rw [List.getElem?_set]
  by_cases hj : j < n
  · rw [bitsB_get (O := O ||| 2 ^ i) hj]
    split
    · rename_i e; subst e; simp [bitsB_len, hj, Nat.testBit_or]
    · rename_i e; rw [bitsB_get hj, Nat.testBit_or, Nat.testBit_two_pow]; simp [e]
  · have : (bitsB (O ||| 2 ^ i) n)[j]? = none := by simp [bitsB]; omega
    rw [this]
    split
    · omega
    · simp [bitsB]; omega
theorem bitsB_unset {O n i : Nat} (h : i < n) (hO : O.testBit i = false) : (bitsB (O ||| 2 ^ i) n).set i false = bitsB O n := by
  refine List.ext_getElem? fun j => ?_
  rw [List.getElem?_set]
  by_cases hj : j < n
  · rw [bitsB_get (O := O) hj]
    split
    · rename_i e; subst e; simp [bitsB_len, hj, hO]
    · rename_i e; rw [bitsB_get hj, Nat.testBit_or, Nat.testBit_two_pow]; simp [e]
  · have : (bitsB O n)[j]? = none := by simp [bitsB]; omega
    rw [this]
    split
    · omega
    · simp [bitsB]; omega
/-- one kind is read alike by both -/
def dfR (s : Sch) (O : Nat) (kind : Int) (k : Nat) : Bool := ansN s 0 kind (chartL s k) != ansN s O kind (chartL s k)
theorem firstN_iff {p : Nat → Bool} {N : Nat} : (∀ j, j < N → p j = false) ↔ firstN p N < 0 := by
  constructor
  · intro h; rw [firstN_none h]; omega
  · intro h j hj
    cases hp : p j with
    | false => rfl
    | true =>
      have hd : decide (0 ≤ firstN p N) = (List.range N).any p := firstIdx_any p _
      have ha : (List.range N).any p = true := List.any_eq_true.2 ⟨j, by simpa using hj, hp⟩
      rw [ha] at hd
      have := of_decide_eq_true hd
      omega
theorem sameB_firstN {s : Sch} {O : Nat} : sameB s O = true ↔ ∀ k : Nat, (k : Int) < s.kinds → firstN (dfR s O k) (chartsC s) < 0 := by
  simp only [sameB, List.all_eq_true, List.mem_range, beq_iff_eq]
  constructor
  · intro h k hk
    refine firstN_iff.1 fun j hj => ?_
    simp only [dfR, bne_eq_false_iff_eq]
    exact (h j hj k (by omega)).symm
  · intro h j hj k hk
    have := firstN_iff.2 (h k (by omega)) j hj
    simp only [dfR, bne_eq_false_iff_eq] at this
    exact this.symm
end Go.Proofs.Ytidlmbajpbbilaa
namespace Go.Proofs.Ytidlmbajpbbilaa
open Go.RowKit

theorem own_base {W : World} {b b' e s n : Nat} {v : Value} {xs : List Value} (h : W.ownsRow b e s v n xs) (hb : b' ≤ b) : W.ownsRow b' e s v n xs := by
  refine ⟨h.1, ?_⟩
  rcases h.2 with h2 | ⟨g, cap, cur, e1, h3, h4⟩
  · exact .inl h2
  · exact .inr ⟨g, cap, cur, e1, Nat.le_trans hb h3, h4⟩
/-- a school whose rules lie in a row from block b on, their lists in rows -/
structure MSch (b : Nat) (W : World) (s : Sch) : Prop where
  row : W.ownsRow b 82 5 (.slice s.ra s.rules.length s.rc) s.rules.length (flat Rul.cells s.rules)
  rows : ∀ r ∈ s.rules, RowsOf W r
  len : s.rules.length ≤ 1000
def RetOwnN (s : Sch) (w : World) (e : Ending) (w' : World) : Prop := ∃ s' : Sch, e = .returned (scv s' s'.rv) ∧ s'.pl = s.pl ∧ MSch w.heap.size w' s' ∧ s'.nil0 ∧ Below w.heap.size w w'
theorem MSch.below {b : Nat} {W W' : World} {s : Sch} (h : MSch b W s) (hb : Below W.heap.size W W') : MSch b W' s :=
  ⟨h.row.kept (grown_of_below hb) (by cases hv : (Value.slice s.ra s.rules.length s.rc).ownBlock <;> simp), fun r hr => (h.rows r hr).below hb, h.len⟩
theorem MSch.reads {b : Nat} {W : World} {s : Sch} (h : MSch b W s) : s.reads W W.heap.size := by
  obtain ⟨A, c, hv, hs⟩ := Sl.of_own h.row
  have e : s.ra = A ∧ s.rc = c := by injection hv with h1 h2 h3; exact ⟨h1, h3⟩
  rw [← e.1] at hs
  exact ⟨hs, by have := h.len; omega, fun r hr => (h.rows r hr).reads⟩
theorem blk_ne {W : World} {a b t u : Nat} {cs ds : Array Value} (h : Blk W a cs t) (h' : Blk W b ds u) (hne : t ≠ u) : a ≠ b := by
  rintro rfl
  have h1 : W.heap[a]? = some _ := h
  have h2 : W.heap[a]? = some _ := h'
  rw [h1] at h2; cases h2; exact hne rfl
/-- rule i gets the kinds 0 -/
def Sch.off1 (s : Sch) (i : Nat) : Sch := { s with rules := s.rules.modify i (fun r => r.off true) }
theorem flat_off (l : List Rul) (i : Nat) (hi : i < l.length) : flat Rul.cells (l.modify i (fun r => r.off true)) = (flat Rul.cells l).set (i * 5 + 1) (.int .i64 0) := by
  induction l generalizing i with
  | nil => cases hi
  | cons r l ih =>
    cases i with
    | zero => simp [flat, Rul.cells, Rul.off]
    | succ i =>
      have h1 := ih i (by simpa using hi)
      have e1 : flat Rul.cells (r :: l) = r.cells ++ flat Rul.cells l := rfl
      have e2 : flat Rul.cells ((r :: l).modify (i + 1) (fun r => r.off true)) = r.cells ++ flat Rul.cells (l.modify i (fun r => r.off true)) := by simp [flat]
      rw [e1, e2, h1]
      rw [show (i + 1) * 5 + 1 = i * 5 + 1 + 1 + 1 + 1 + 1 + 1 by omega]
      rfl
/-- where rule i's kinds lie, and what is there behind a store -/
theorem MSch.put {b : Nat} {W : World} {s : Sch} (h : MSch b W s) {i : Nat} (hi : i < s.rules.length) :
    ∃ g, s.ra = some ⟨g, 0, none⟩ ∧ b ≤ g ∧ (∃ cs, Blk W g cs 82) ∧ W.frozen? ⟨g, i * 5 + 1, none⟩ = false ∧ (∃ v, W.cell? ⟨g, i * 5 + 1, none⟩ = some v) ∧ MSch b (W.setCell ⟨g, i * 5 + 1, none⟩ (.int .i64 0)) (s.off1 i) := by
  rcases h.row.2 with ⟨_, h0⟩ | ⟨g, cap, cur, hv, hb, hg, hnc, hcm, hcs, ht⟩
  · omega
  · have hra : s.ra = some ⟨g, 0, none⟩ ∧ s.rc = cap := by injection hv with h1 h2 h3; exact ⟨h1, h3⟩
    have gB : Blk W g cur 82 := hg
    have hlen : (flat Rul.cells s.rules).length = s.rules.length * 5 := h.row.1
    have hl2 : (s.off1 i).rules.length = s.rules.length := by simp [Sch.off1]
    have hsz : i * 5 + 1 < cur.size := by omega
    refine ⟨g, hra.1, hb, ⟨_, gB⟩, gB.free _, ⟨_, by rw [gB.cell]; exact Array.getElem?_eq_getElem hsz⟩, ⟨?_, fun r hr => ?_, by rw [hl2]; exact h.len⟩⟩
    · rw [hl2]
      refine ⟨by show (flat Rul.cells (s.rules.modify i (fun r => r.off true))).length = _; rw [flat_off _ _ hi, List.length_set]; exact hlen, .inr ⟨g, cap, cur.setIfInBounds (i * 5 + 1) (.int .i64 0), ?_, hb, gB.set _ _, hnc, hcm, by simpa using hcs, ?_⟩⟩
      · show Value.slice s.ra _ s.rc = _; rw [hra.1, hra.2]
      · show _ = flat Rul.cells (s.rules.modify i (fun r => r.off true))
        rw [flat_off _ _ hi, ← ht, Array.toList_setIfInBounds, List.take_set]
    · have hk : ∃ cs, Blk W g cs 82 := ⟨_, gB⟩
      have hput : ∀ q : Rul, RowsOf W q → RowsOf (W.setCell ⟨g, i * 5 + 1, none⟩ (.int .i64 0)) q := fun q hq =>
        ⟨own_put' hq.w_ hk (by decide) _ _, own_put' hq.u_ hk (by decide) _ _, hq.l1, hq.l2, hq.ok⟩
      obtain ⟨j, hj, rfl⟩ := List.mem_iff_getElem.1 hr
      have hj' : j < s.rules.length := by rw [hl2] at hj; exact hj
      have e : (s.off1 i).rules[j] = if i = j then s.rules[j].off true else s.rules[j] := by
        simp only [Sch.off1, List.getElem_modify]
      rw [e]
      have h1 := hput _ (h.rows _ (List.getElem_mem hj'))
      split
      · exact ⟨h1.w_, h1.u_, h1.l1, h1.l2, h1.ok⟩
      · exact h1
set_option maxRecDepth 100000 in
set_option maxHeartbeats 4000000 in
theorem own_new (s : Sch) (w : World) (hr : s.reads w w.heap.size) (h0 : s.nil0) (hl : s.rules.length ≤ 1000) : Calls Try.prog 17 #[scv s s.rv] w (RetOwnN s w) := by
  obtain ⟨i1, hi1, iy0, iy1, iy2⟩ := info_parts infoRule
  have HRR := Lib.hid hr; have HN0 := Lib.hid h0
  clear hr h0
  go_enter Try.func17, Try.ntmps17
  go_wp2
  refine wp_world (fun W => Below w.heap.size w W ∧ w.heap.size + 1 + 1 < W.heap.size ∧ Blk W w.heap.size #[.int .i64 s.places, .int .i64 s.signs, .int .i64 s.kinds, .int .i64 s.answers, s.rv] 24 ∧
    Blk W (w.heap.size + 1) #[.int .i64 0, .int .i64 0, .int .i64 0, .int .i64 0, .slice none 0 0] 24 ∧ W.ownsRow (w.heap.size + 1 + 1) 82 5 (.slice (some ⟨w.heap.size + 1 + 1, 0, none⟩) 0 0) 0 []) ?_ ?_
  · refine ⟨by (repeat (first | exact Below.refl _ _ | assumption | (refine Below.alloc ?_ (by first | omega | (simp; omega) | (simp; done)) _) | (refine Below.setCell ?_ (by first | omega | (simp; omega) | (simp; done)) _) | (refine Below.drew ?_) | (refine belowN ?_ _) | (refine Below.trans ?_ (Below.mono ‹Below _ _ _› (by first | omega | (simp; omega) | (simp; done)))))), by simp, ((Blk.at_ rfl).alloc _).alloc _, (Blk.at_ (by simp)).alloc _, ?_⟩
    have := World.ownsRow_made (e := 82) (size := 5) ((w.alloc (.cells #[.int .i64 s.places, .int .i64 s.signs, .int .i64 s.kinds, .int .i64 s.answers, s.rv] 24)).alloc (.cells #[.int .i64 0, .int .i64 0, .int .i64 0, .int .i64 0, .slice none 0 0] 24)) #[] 0 (base := w.heap.size + 1 + 1) (by simp) (by simp) (by simp)
    simpa using this
  rintro w0 ⟨hbw, hz0, g0, g1, hown0⟩
  have HO0 := Lib.hid hown0
  go_loopw [3, 4] (fun v i wr => ∃ (j : Nat) (l : List Rul), j ≤ s.rules.length ∧ i = .int .i64 j ∧ Hid (l.length = j) ∧ Hid (wr.ownsRow (w.heap.size + 1 + 1) 82 5 v l.length (flat Rul.cells l)) ∧ Hid (∀ r ∈ l, RowsOf wr r) ∧ Hid (l.map Rul.pl = (s.rules.take j).map Rul.pl) ∧
    Hid (Below w.heap.size w wr) ∧ w.heap.size + 1 + 1 < wr.heap.size ∧ Hid (Blk wr w.heap.size #[.int .i64 s.places, .int .i64 s.signs, .int .i64 s.kinds, .int .i64 s.answers, s.rv] 24) ∧ Hid (Blk wr (w.heap.size + 1) #[.int .i64 0, .int .i64 0, .int .i64 0, .int .i64 0, .slice none 0 0] 24)) (fun _ i _ => s.rules.length - (intOf i).toNat)
  case atStart => exact ⟨0, [], by omega, rfl, rfl, HO0, (fun r hr => by cases hr), rfl, hbw, hz0, g0, g1⟩
  case round =>
    obtain ⟨j, l, hj, rfl, hlj, hown, hrows, hpl, hbr, hzr, q0, q1⟩ := hrel
    have s4 := q0.out.cell 4
    simp at s4
    by_cases hlt : j < s.rules.length
    · have hrr := HRR.out.below hbr.out
      obtain ⟨ab, ao, hra, hblk, hcell⟩ := hrr.1.at_ (k := j) (fun _ => rfl) hlt
      have s4' : wr.cell? ⟨w.heap.size, 4, none⟩ = some (.slice (some ⟨ab, ao, none⟩) s.rules.length s.rc) := by rw [s4, ← hra]
      have hrl := (hrr.2.2 _ (List.getElem_mem hlt)).more hbr.out.size
      have hn0 := HN0.out.2 _ (List.getElem_mem hlt)
      have HTK := Lib.hid (List.take_succ_eq_append_getElem hlt)
      obtain ⟨r, hre⟩ : ∃ t, s.rules[j] = t := ⟨_, rfl⟩
      rw [hre] at hcell hrl hn0 HTK
      have c0 : wr.cell? ⟨ab, ao + j * 5, none⟩ = some (.slice r.wa r.when_.length r.wc) := hcell 0 _ rfl
      have c1 : wr.cell? ⟨ab, ao + j * 5 + 1, none⟩ = some (.int .i64 r.kinds) := hcell 1 _ rfl
      have c2 : wr.cell? ⟨ab, ao + j * 5 + 2, none⟩ = some (.int .i64 r.rank) := hcell 2 _ rfl
      have c3 : wr.cell? ⟨ab, ao + j * 5 + 3, none⟩ = some (.slice r.ua r.unless_.length r.uc) := hcell 3 _ rfl
      have c4 : wr.cell? ⟨ab, ao + j * 5 + 4, none⟩ = some (.int .i64 r.says) := hcell 4 _ rfl
      obtain ⟨hw1, hw2, hl1, hl2, hok⟩ := hrl
      have HT := fun W (hW : Below wr.heap.size wr W) => Lib.hid (ltests_any r.wa r.wc r.when_ W hl1 hn0.1 (oneCell_tests _ hok) ((hw1.below hW).more hW.size))
      have HI := fun W (hW : Below wr.heap.size wr W) => Lib.hid (lints_any r.ua r.uc r.unless_ W hl2 hn0.2 (oneCell_ints _) ((hw2.below hW).more hW.size))
      have HOK := Lib.hid hok
      clear hcell hre hra hrr s4 hw1 hw2 hok hn0
      go_wp2
      go_region_with (first | (go_at_call 37; refine ((HT _ (by (repeat (first | exact Below.refl _ _ | assumption | (refine Below.alloc ?_ (by first | omega | (simp; omega) | (simp; done)) _) | (refine Below.setCell ?_ (by first | omega | (simp; omega) | (simp; done)) _) | (refine Below.drew ?_) | (refine belowN ?_ _) | (refine Below.trans ?_ (Below.mono ‹Below _ _ _› (by first | omega | (simp; omega) | (simp; done)))))))).out).mono ?_; rintro e w1 ⟨v1, rfl, hown1, hb1⟩; have hc1 := fun b o (h : b < wr.heap.size + 1) => (bcell hb1).1 b o (by simp; omega); have hf1 := fun b o (h : b < wr.heap.size + 1) => (bcell hb1).2 b o (by simp; omega); have hz1 : wr.heap.size + 1 ≤ w1.heap.size := (by have := hb1.size; simp at this; omega); obtain ⟨A1, k1, hv1⟩ : ∃ A c, v1 = .slice A r.when_.length c := (by obtain ⟨A, c, h, _⟩ := Sl.of_own hown1; exact ⟨A, c, h⟩); subst hv1; have HO1 := Lib.hid hown1; clear hown1) | (go_at_call 38; have hbz : Below wr.heap.size wr w1 := Below.trans (by (repeat (first | exact Below.refl _ _ | assumption | (refine Below.alloc ?_ (by first | omega | (simp; omega) | (simp; done)) _) | (refine Below.setCell ?_ (by first | omega | (simp; omega) | (simp; done)) _) | (refine Below.drew ?_) | (refine belowN ?_ _) | (refine Below.trans ?_ (Below.mono ‹Below _ _ _› (by first | omega | (simp; omega) | (simp; done))))))) (Below.mono hb1 (by simp)); refine ((HI _ hbz).out).mono ?_; rintro e w2 ⟨v2, rfl, hown2, hb2⟩; have hc2 := fun b o (h : b < wr.heap.size + 1) => (bcell hb2).1 b o (by omega); have hf2 := fun b o (h : b < wr.heap.size + 1) => (bcell hb2).2 b o (by omega); obtain ⟨A2, k2, hv2⟩ : ∃ A c, v2 = .slice A r.unless_.length c := (by obtain ⟨A, c, h, _⟩ := Sl.of_own hown2; exact ⟨A, c, h⟩); subst hv2; have HO2 := Lib.hid hown2; clear hown2))
      all_goals (
        refine gen_w (fun W => Blk W wr.heap.size #[.slice A1 r.when_.length k1, .int .i64 r.kinds, .int .i64 r.rank, .slice A2 r.unless_.length k2, .int .i64 r.says] 82 ∧ Below wr.heap.size wr W ∧ W.ownsRow 0 103 4 (.slice A1 r.when_.length k1) r.when_.length (flat Tst.cells r.when_) ∧ W.ownsRow 0 3 1 (.slice A2 r.unless_.length k2) r.unless_.length (flat intCell r.unless_) ∧ wr.heap.size < W.heap.size) ?_ ?_
        · have gB : Blk w2 wr.heap.size #[.slice r.wa r.when_.length r.wc, .int .i64 r.kinds, .int .i64 r.rank, .slice r.ua r.unless_.length r.uc, .int .i64 r.says] 82 := ((show Blk ((wr.alloc (.cells #[.slice r.wa r.when_.length r.wc, .int .i64 r.kinds, .int .i64 r.rank, .slice r.ua r.unless_.length r.uc, .int .i64 r.says] 82)).drew) wr.heap.size #[.slice r.wa r.when_.length r.wc, .int .i64 r.kinds, .int .i64 r.rank, .slice r.ua r.unless_.length r.uc, .int .i64 r.says] 82 from Blk.new wr _ _).below hb1 (by simp)).below hb2 (by omega)
          have o1 := (HO1.out.kept (grown_of_below hb2) (by cases A1 <;> simp [Value.ownBlock]))
          have o2 := HO2.out
          have hB2 : Below wr.heap.size wr w2 := hbz.trans (hb2.mono (by omega))
          have hz2 := hb2.size
          refine ⟨?_, (hB2.setCell (Nat.le_refl _) _).setCell (Nat.le_refl _) _, ?_, ?_, by simp; omega⟩
          · first | exact (gB.set 0 _).set 3 _ | exact (gB.set 3 _).set 0 _
          · exact own_mono (own_put (own_put o1 (by simp) _ _) (by simp) _ _)
          · exact own_mono (own_put (own_put o2 (by omega) _ _) (by omega) _ _)
        clear hb1 hb2 hbz hc1 hf1 hc2 hf2 hz1 HO1 HO2
        rintro W4 ⟨g4, hb4, p1, p2, hz4⟩
        have l0 := g4.cell 0
        have l1 := g4.cell 1
        have l2 := g4.cell 2
        have l3 := g4.cell 3
        have l4 := g4.cell 4
        simp at l0 l1 l2 l3 l4
        have hc5 : ∀ (i : Nat) (u : Value), [Value.slice A1 r.when_.length k1, .int .i64 r.kinds, .int .i64 r.rank, .slice A2 r.unless_.length k2, .int .i64 r.says][i]? = some u → (W4.alloc (.cells #[.slice A1 r.when_.length k1, .int .i64 r.kinds, .int .i64 r.rank, .slice A2 r.unless_.length k2, .int .i64 r.says] 82)).cell? ((⟨W4.heap.size, 0, none⟩ : Addr).add i) = some u := fun i u hu => by
          rw [Go.WideShapes.add_plain, Nat.zero_add, (Blk.new W4 _ _).cell i, ← hu]; simp
        have how := hown.out.kept (grown_of_below hb4) (by cases hv : u3.ownBlock <;> simp)
        have HC5 := Lib.hid hc5
        have HOW := Lib.hid how
        clear hc5 how
        go_wp2_with (at_builtin; refine wpList_append_own _ rfl _ _ 22 rfl (w.heap.size + 1 + 1) 82 i1 (.agg #[.slice none 0 0, .int .i64 0, .int .i64 0, .slice none 0 0, .int .i64 0]) 5 72 uRules hi1 iy0 iy1 iy2 rfl (by decide) _ _ _ rfl (HOW.out.alloc _) ⟨W4.heap.size, 0, none⟩ 1 1 [.slice A1 r.when_.length k1, .int .i64 r.kinds, .int .i64 r.rank, .slice A2 r.unless_.length k2, .int .i64 r.says] rfl rfl HC5.out (by simp [Value.oneCell']) (by have := hlj.out; unfold maxLen; omega) (by have := hlj.out; omega) (by have := hlj.out; simp; omega) ?_; intro v' w5 hown5 hgrow _)
        have hol := hlj.out
        have hb45 : Below (w.heap.size + 1 + 1) wr w5 := ((hb4.mono (by omega)).alloc (by omega) _).grown hgrow (by simp; omega) (fun g hg => own_ge hown.out hg)
        have hbz5 : W4.heap.size < w5.heap.size := by have := hgrow.size; simp at this; omega
        refine ⟨⟨j + 1, l ++ [⟨A1, k1, r.when_, r.kinds, r.rank, A2, k2, r.unless_, r.says⟩], by omega, by simp, by show _ = _; simp [hol], by show World.ownsRow _ _ _ _ _ _ _; simpa [flat, Rul.cells] using hown5, ?_, ?_, hbr.out.trans (hb45.mono (by omega)), by omega, ?_, ?_⟩, by simp [intOf]; omega⟩
        · show ∀ r ∈ _, _
          have hA : ∀ q : Rul, RowsOf (W4.alloc (.cells #[.slice A1 r.when_.length k1, .int .i64 r.kinds, .int .i64 r.rank, .slice A2 r.unless_.length k2, .int .i64 r.says] 82)) q → RowsOf w5 q := fun q hq => hq.grown hgrow fun e v he ⟨s', n', xs', h'⟩ => by
            obtain h2 := ownsRow_apart h' (HOW.out.alloc (.cells #[.slice A1 r.when_.length k1, .int .i64 r.kinds, .int .i64 r.rank, .slice A2 r.unless_.length k2, .int .i64 r.says] 82)) (by rcases he with rfl | rfl <;> decide)
            exact h2
          intro q hq
          rcases List.mem_append.1 hq with hq | hq
          · exact hA q (((hrows.out q hq).below hb4).below ((Below.refl _ _).alloc (Nat.le_refl _) _))
          · obtain rfl : q = _ := by simpa using hq
            exact hA _ (RowsOf.below (W := W4) ⟨p1, p2, hl1, hl2, HOK.out⟩ ((Below.refl _ _).alloc (Nat.le_refl _) _))
        · show _ = _
          rw [HTK.out, List.map_append, List.map_append, hpl.out]; rfl
        · exact q0.out.below hb45 (by omega)
        · exact q1.out.below hb45 (by omega))
    · obtain rfl : j = s.rules.length := by omega
      have hjl := hlj.out
      obtain ⟨A, c, rfl, hs⟩ := Sl.of_own hown.out
      have HS := Lib.hid hs
      clear hs
      have t0 := q0.out.cell 0
      have t1 := q0.out.cell 1
      have t2 := q0.out.cell 2
      have t3 := q0.out.cell 3
      have f4 := q0.out.free 4
      have y0 := q1.out.free 0
      have y1 := q1.out.free 1
      have y2 := q1.out.free 2
      have y3 := q1.out.free 3
      have y4 := q1.out.free 4
      have x0 := q1.out.cell 0
      have x1 := q1.out.cell 1
      have x2 := q1.out.cell 2
      have x3 := q1.out.cell 3
      have x4 := q1.out.cell 4
      simp at t0 t1 t2 t3 x0 x1 x2 x3 x4
      go_wp2
      refine gen_w (fun W => Blk W (w.heap.size + 1) #[.int .i64 s.places, .int .i64 s.signs, .int .i64 s.kinds, .int .i64 s.answers, .slice A s.rules.length c] 24 ∧ (∀ r ∈ l, RowsOf W r) ∧ W.ownsRow (w.heap.size + 1 + 1) 82 5 (Value.slice A l.length c) l.length (flat Rul.cells l) ∧ Below w.heap.size w W) ?_ ?_
      · have k0 : ∃ cs, Blk wr w.heap.size cs 24 := ⟨_, q0.out⟩
        have k1 : ∃ cs, Blk wr (w.heap.size + 1) cs 24 := ⟨_, q1.out⟩
        have z1 := bk_put k1 w.heap.size 4 (Value.slice A s.rules.length c)
        have z2 := bk_put z1 (w.heap.size + 1) 0 (.int .i64 s.places)
        have z3 := bk_put z2 (w.heap.size + 1) 1 (.int .i64 s.signs)
        have z4 := bk_put z3 (w.heap.size + 1) 2 (.int .i64 s.kinds)
        have z5 := bk_put z4 (w.heap.size + 1) 3 (.int .i64 s.answers)
        refine ⟨((((((q1.out.far ⟨w.heap.size, 4, none⟩ (by simp) (Value.slice A s.rules.length c)).set 0 (.int .i64 s.places)).set 1 (.int .i64 s.signs)).set 2 (.int .i64 s.kinds)).set 3 (.int .i64 s.answers)).set 4 (Value.slice A s.rules.length c)), fun r hr => ((((((hrows.out r hr).put k0 4 (Value.slice A s.rules.length c)).put z1 0 (.int .i64 s.places)).put z2 1 (.int .i64 s.signs)).put z3 2 (.int .i64 s.kinds)).put z4 3 (.int .i64 s.answers)).put z5 4 (Value.slice A s.rules.length c), own_put (own_put (own_put (own_put (own_put (own_put hown.out (k := w.heap.size) (by omega) 4 (Value.slice A s.rules.length c)) (k := w.heap.size + 1) (by omega) 0 (.int .i64 s.places)) (k := w.heap.size + 1) (by omega) 1 (.int .i64 s.signs)) (k := w.heap.size + 1) (by omega) 2 (.int .i64 s.kinds)) (k := w.heap.size + 1) (by omega) 3 (.int .i64 s.answers)) (k := w.heap.size + 1) (by omega) 4 (Value.slice A s.rules.length c), ?_⟩
        exact (((((hbr.out.setCell (by simp) _).setCell (by simp) _).setCell (by simp) _).setCell (by simp) _).setCell (by simp) _).setCell (by simp) _
      clear hown hrows hbr q0 q1 hzr HS
      rintro Wf ⟨gz, hrw, how, hbf⟩
      have e0 := gz.cell 0
      have e1 := gz.cell 1
      have e2 := gz.cell 2
      have e3 := gz.cell 3
      have e4 := gz.cell 4
      simp at e0 e1 e2 e3 e4
      refine bodyPost_ret (v := .agg #[.int .i64 s.places, .int .i64 s.signs, .int .i64 s.kinds, .int .i64 s.answers, .slice A s.rules.length c]) (by simp [results, Try.results17, go_sem, e0, e1, e2, e3, e4]) rfl ?_
      obtain ⟨A', c', hv', hs'⟩ := Sl.of_own how
      cases hv'
      refine ⟨⟨s.places, s.signs, s.kinds, s.answers, A, c, l⟩, by rw [← hjl], ?_, ⟨own_base how (by omega), fun r hr => hrw r hr, by show l.length ≤ _; omega⟩, ⟨fun e => ?_, fun r hr => (hrw r hr).nil⟩, hbf⟩
      · have := hpl.out
        rw [List.take_length] at this
        simp only [Sch.pl, this]
      · rcases how.2 with ⟨hv, _⟩ | ⟨g, cap, cur, hv, _⟩
        · injection hv
        · replace e : A = none := e
          rw [e] at hv; cases hv
end Go.Proofs.Ytidlmbajpbbilaa

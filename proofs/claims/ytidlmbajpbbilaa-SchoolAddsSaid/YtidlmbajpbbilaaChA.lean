/- A helper of the laws: a chart of a region by numbers. -/
import Derived.Test.YtidlmbajpbbilaaHlG
namespace Go.Proofs.Ytidlmbajpbbilaa
open Go.RowKit

abbrev byteCell (b : Int) : List Value := [.int .u8 b]
/-- the figures below j of a set -/
def figL (x : Int) (j : Nat) : List Int := ((List.range j).filter fun (f : Nat) => bitB x (f : Int)).map fun (f : Nat) => (f : Int)
theorem figL_succ (x : Int) (j : Nat) : figL x (j + 1) = figL x j ++ if bitB x (j : Int) then [(j : Int)] else [] := by
  unfold figL
  rw [List.range_succ, List.filter_append, List.map_append]
  cases h : bitB x (j : Int) <;> simp [h]
theorem figL_len (x : Int) (j : Nat) : (figL x j).length ≤ j := by
  unfold figL
  rw [List.length_map]
  exact Nat.le_trans (List.length_filter_le _ _) (by simp)
theorem figL_mem {x f : Int} {j : Nat} (h : f ∈ figL x j) : 0 ≤ f ∧ f < j ∧ bitB x f = true := by
  unfold figL at h
  obtain ⟨i, hi, rfl⟩ := List.mem_map.1 h
  obtain ⟨h1, h2⟩ := List.mem_filter.1 hi
  have := List.mem_range.1 h1
  exact ⟨by omega, by omega, h2⟩
theorem figL_nil {x : Int} {j : Nat} (h : figL x j = []) : ∀ f : Nat, f < j → bitB x (f : Int) = false := fun f hf => by
  cases hb : bitB x (f : Int) with
  | false => rfl
  | true =>
    have : (f : Int) ∈ figL x j := List.mem_map.2 ⟨f, List.mem_filter.2 ⟨List.mem_range.2 hf, hb⟩, rfl⟩
    rw [h] at this; cases this
/-- figures, each of its set -/
def Picked (sets L : List Int) : Prop := ∀ i : Nat, (h : i < L.length) → ∃ h' : i < sets.length, 0 ≤ L[i] ∧ L[i] ≤ 63 ∧ bitB sets[i] L[i] = true
theorem picked_succ {sets L : List Int} {f : Int} (h : Picked sets L) (hl : L.length < sets.length) (h0 : 0 ≤ f) (h1 : f ≤ 63) (hb : bitB sets[L.length] f = true) : Picked sets (L ++ [f]) := fun i hi => by
  rw [List.length_append, List.length_singleton] at hi
  by_cases h2 : i < L.length
  · obtain ⟨h', h3⟩ := h i h2
    refine ⟨h', ?_⟩
    rw [List.getElem_append_left h2]; exact h3
  · obtain rfl : i = L.length := by omega
    refine ⟨hl, ?_⟩
    simp only [List.getElem_append_right (Nat.le_refl _), Nat.sub_self, List.getElem_cons_zero]
    exact ⟨h0, h1, hb⟩
/-- a chart of a region, or that there is none -/
def RetCh (sets : List Int) (w : World) (e : Ending) (w' : World) : Prop := ∃ (A : Option Addr) (c : Nat) (b : Bool) (L : List Int), e = .returned (.tuple #[.slice A L.length c, .bool b]) ∧ Sl intCell 1 w' w'.heap.size A L ∧
  (b = true → L.length = sets.length ∧ Picked sets L) ∧ (b = false → L = [] ∧ ∃ x ∈ sets, ∀ f : Nat, f < 64 → bitB x (f : Int) = false) ∧ (A = none → c = 0) ∧ Below w.heap.size w w'
set_option maxRecDepth 100000 in
set_option maxHeartbeats 4000000 in
theorem chartOf_any (A : Option Addr) (c : Nat) (sets : List Int) (Bq : Option Addr) (bc : Nat) (bs : List Int) (w : World) (hA : Sl setCell1 1 w w.heap.size A sets) (hl : sets.length ≤ 1000) (ho : ∀ x ∈ sets, IsU64 x)
    (hB : Sl byteCell 1 w w.heap.size Bq bs) (hb : ∀ v ∈ bs, 0 ≤ v ∧ v < 256) (hbl : bs.length ≤ 1000000) : Calls Try.prog 31 #[.slice A sets.length c, .slice Bq bs.length bc] w (RetCh sets w) := by
  obtain ⟨i1, hi1, iy0, iy1, iy2⟩ := info_parts infoInt
  have HAA := Lib.hid hA; have HO := Lib.hid ho; have HB := Lib.hid hB; have HV := Lib.hid hb
  clear hA ho hB hb
  go_enter Try.func31, Try.ntmps31
  go_wp2
  refine wp_world (fun W => Below w.heap.size w W ∧ w.heap.size < W.heap.size ∧ W.ownsRow w.heap.size 3 1 (.slice (some ⟨w.heap.size, 0, none⟩) 0 0) 0 []) ?_ ?_
  · refine ⟨by (repeat (first | exact Below.refl _ _ | assumption | (refine Below.alloc ?_ (by first | omega | (simp; omega) | (simp; done)) _) | (refine Below.setCell ?_ (by first | omega | (simp; omega) | (simp; done)) _) | (refine Below.drew ?_) | (refine belowN ?_ _) | (refine Below.trans ?_ (Below.mono ‹Below _ _ _› (by first | omega | (simp; omega) | (simp; done)))))), by simp, ?_⟩
    have := World.ownsRow_made (e := 3) (size := 1) w #[] 0 (base := w.heap.size) (by simp) (by simp) (by simp)
    simpa using this
  rintro w0 ⟨hbw, hz0, hown0⟩
  have HO0 := Lib.hid hown0
  go_loopw [6, 7] (fun v i wr => ∃ L : List Int, L.length ≤ sets.length ∧ i = .int .i64 L.length ∧ Hid (wr.ownsRow w.heap.size 3 1 v L.length (flat intCell L)) ∧ Hid (Picked sets L) ∧ Below w.heap.size w wr ∧ w.heap.size < wr.heap.size) (fun _ i _ => sets.length - (intOf i).toNat)
  case atStart => exact ⟨[], by simp, rfl, HO0, (fun i hi => by cases hi), hbw, hz0⟩
  case round =>
    obtain ⟨L, hj, rfl, hown, hpk, hbr, hzr⟩ := hrel
    rename World => wo
    obtain ⟨j, hjl⟩ : ∃ j, j = L.length := ⟨_, rfl⟩
    rw [← hjl] at hj hown ⊢
    have HJL := Lib.hid hjl
    clear hjl
    by_cases hlt : j < sets.length
    · obtain ⟨ab, ao, rfl, hblk, hcell⟩ := (HAA.out.below hbr).at_ (k := j) (fun _ => rfl) hlt
      have hxb := HO.out _ (List.getElem_mem hlt)
      obtain ⟨x, hx⟩ : ∃ t, sets[j] = t := ⟨_, rfl⟩
      have HX := Lib.hid hx
      rw [hx] at hcell hxb
      have HXB := Lib.hid hxb
      unfold IsU64 at hxb
      have c0 : wo.cell? ⟨ab, ao + j, none⟩ = some (.int .u64 x) := by have := hcell 0 _ rfl; simpa using this
      have hj0 : (0 : Int) ≤ (j : Int) := by omega
      have hj1 : (j : Int) < (sets.length : Int) := by omega
      have hab : ab < wo.heap.size := by omega
      obtain ⟨hx0, hx1⟩ := hxb
      clear hcell hx
      go_wp2
      refine gen_w (fun W => Below wo.heap.size wo W ∧ wo.heap.size < W.heap.size ∧ W.ownsRow wo.heap.size 3 1 (.slice (some ⟨wo.heap.size, 0, none⟩) 0 0) 0 []) ⟨by (repeat (first | exact Below.refl _ _ | assumption | (refine Below.alloc ?_ (by first | omega | (simp; omega) | (simp; done)) _) | (refine Below.setCell ?_ (by first | omega | (simp; omega) | (simp; done)) _) | (refine Below.drew ?_) | (refine belowN ?_ _) | (refine Below.trans ?_ (Below.mono ‹Below _ _ _› (by first | omega | (simp; omega) | (simp; done)))))), by simp, by
        have := World.ownsRow_made (e := 3) (size := 1) wo #[] 0 (base := wo.heap.size) (by simp) (by simp) (by simp)
        simpa using this⟩ ?_
      rintro W1 ⟨hb1, hz1, hown1⟩
      have HO1 := Lib.hid hown1
      clear hown1
      go_loopw [8, 9] (fun v i wr => ∃ f : Nat, f ≤ 64 ∧ i = .int .i64 f ∧ Below wo.heap.size wo wr ∧ wo.heap.size < wr.heap.size ∧ Hid (wr.ownsRow wo.heap.size 3 1 v (figL x f).length (flat intCell (figL x f)))) (fun _ i _ => 64 - (intOf i).toNat)
      case atStart => exact ⟨0, by omega, rfl, hb1, hz1, HO1⟩
      case round =>
        obtain ⟨f, hf, rfl, hbi, hzi, howi⟩ := hrel
        have c0 := (hbi.cell (p := ⟨ab, ao + j, none⟩) hab).trans c0
        by_cases hlt2 : f < 64
        · have hbt := bit1_u64 x (f : Int) HXB.out
          simp only [Int.toNat_natCast] at hbt
          have hf0 : (0 : Int) ≤ (f : Int) := by omega
          have hf1 : (f : Int) ≤ 63 := by omega
          have hw3 : IntKind.u64.wrap (f : Int) = (f : Int) := IntWalk.u64_in _ ⟨by omega, by omega⟩
          have hfl := figL_len x f
          have HFS := Lib.hid (figL_succ x f)
          cases hbit : bitB x (f : Int) with
          | false =>
            rw [hbit] at hbt HFS
            go_wp2
            go_roundw
            case rel => exact ⟨f + 1, by omega, by go_num, hbi, hzi, by rw [HFS.out]; simpa using howi⟩
            case measure => simp [intOf] <;> omega
          | true =>
            rw [hbit] at hbt HFS
            have HC5 : Hid (∀ (i : Nat) (u : Value), [Value.int .i64 (f : Int)][i]? = some u → (wr.alloc (.cells #[.int .i64 (f : Int)] 3)).cell? ((⟨wr.heap.size, 0, none⟩ : Addr).add i) = some u) := (fun i u hu => (by rw [Go.WideShapes.add_plain, Nat.zero_add, (Blk.new wr _ _).cell i, ← hu]; simp))
            go_wp2_with (at_builtin; refine wpList_append_own _ rfl _ _ 28 rfl wo.heap.size 3 i1 (.int .i64 0) 1 8 uInts hi1 iy0 iy1 iy2 rfl (by decide) _ _ _ rfl (howi.out.alloc _) ⟨wr.heap.size, 0, none⟩ 1 1 [.int .i64 (f : Int)] rfl rfl HC5.out (by simp [Value.oneCell']) (by unfold maxLen; omega) (by omega) (by simp; omega) ?_; intro v' w5 hown5 hgrow _)
            have hb45 : Below wo.heap.size wr w5 := ((Below.refl _ _).alloc (by omega) _).grown hgrow (by simp; omega) (fun g hg => own_ge howi.out hg)
            have hbz5 : wr.heap.size < w5.heap.size := by have := hgrow.size; simp at this; omega
            go_wp2
            go_roundw
            case rel => exact ⟨f + 1, by omega, by go_num, hbi.trans hb45, by omega, by
              have e : figL x (f + 1) = figL x f ++ [(f : Int)] := by rw [HFS.out]; rfl
              rw [e]
              show World.ownsRow _ _ _ _ _ _ _
              simpa [flat] using hown5⟩
            case measure => simp [intOf] <;> omega
        · obtain rfl : f = 64 := by omega
          obtain ⟨Am, cm, rfl, hsm⟩ := Sl.of_own howi.out
          have hbiw : Below w.heap.size w wr := bl2 hbr hbi
          have hok := hown.out.kept (grown_of_below hbi) (by cases hv : u6.ownBlock <;> simp)
          have HOK := Lib.hid hok
          clear hok
          by_cases hm : figL x 64 = []
          · have hno := figL_nil hm
            have hmem : x ∈ sets := by have h := HX.out; subst h; exact List.getElem_mem hlt
            rw [hm, List.length_nil]
            clear howi hsm
            go_wp2
            refine bodyPost_ret (v := .tuple #[.slice none 0 0, .bool false]) (by simp [results, Try.results31, go_sem]) rfl ?_
            exact ⟨none, 0, false, [], rfl, sl_nil, (fun h => by cases h), (fun _ => ⟨rfl, x, hmem, hno⟩), (fun _ => rfl), hbiw⟩
          · have hm1 := figL_len x 64
            obtain ⟨M, hM⟩ : ∃ M, M = figL x 64 := ⟨_, rfl⟩
            have hmem : ∀ f ∈ M, 0 ≤ f ∧ f < 64 ∧ bitB x f = true := fun f hf => by rw [hM] at hf; have := figL_mem hf; simpa using this
            rw [← hM] at hm hm1 hsm howi ⊢
            clear hM
            have hm0 : 0 < M.length := List.length_pos_iff.2 hm
            have HME := Lib.hid hmem
            clear hm hmem
            by_cases hb0 : bs.length = 0
            · have d1 : decide (0 < (bs.length : Int)) = false := decide_eq_false (by omega)
              have d1' : decide (0 < bs.length) = false := decide_eq_false (by omega)
              have hb1' : ¬ 0 < bs.length := by omega
              clear hb0
              obtain ⟨yb, yo, rfl, hyb, hyc⟩ := hsm.at_ (k := 0) (fun _ => rfl) hm0
              have y0 : wr.cell? ⟨yb, yo, none⟩ = some (.int .i64 M[0]) := by have := hyc 0 _ rfl; simpa using this
              have hf := HME.out _ (List.getElem_mem hm0)
              obtain ⟨f, hfe⟩ : ∃ f, f = M[0] := ⟨_, rfl⟩
              rw [← hfe] at y0 hf
              clear hyc hsm howi hfe
              have hjl := HJL.out
              have HC5 : Hid (∀ (i : Nat) (u : Value), [Value.int .i64 f][i]? = some u → (wr.alloc (.cells #[.int .i64 f] 3)).cell? ((⟨wr.heap.size, 0, none⟩ : Addr).add i) = some u) := (fun i u hu => (by rw [Go.WideShapes.add_plain, Nat.zero_add, (Blk.new wr _ _).cell i, ← hu]; simp))
              clear hjl
              go_wp2_with (at_builtin; refine wpList_append_own _ rfl _ _ 28 rfl w.heap.size 3 i1 (.int .i64 0) 1 8 uInts hi1 iy0 iy1 iy2 rfl (by decide) _ _ _ rfl (HOK.out.alloc _) ⟨wr.heap.size, 0, none⟩ 1 1 [.int .i64 f] rfl rfl HC5.out (by simp [Value.oneCell']) (by unfold maxLen; omega) (by omega) (by simp; omega) ?_; intro v' w5 hown5 hgrow _)
              have hb45 : Below w.heap.size w w5 := (bla hbiw).grown hgrow (by simp; have := hbiw.size; omega) (fun g hg => own_ge hown.out hg)
              have hbz5 : wr.heap.size < w5.heap.size := by have := hgrow.size; simp at this; omega
              go_wp2
              go_roundw
              case rel => exact ⟨L ++ [f], by rw [List.length_append, ← HJL.out]; simp; omega, by rw [List.length_append, ← HJL.out]; simp, by
                rw [List.length_append, ← HJL.out]
                show World.ownsRow _ _ _ _ _ _ _
                simpa [flat] using hown5, picked_succ hpk.out (by rw [← HJL.out]; exact hlt) hf.1 (by omega) (by
                  have h := HX.out
                  have e : sets[L.length]'(by rw [← HJL.out]; exact hlt) = x := by rw [← h]; congr 1; exact HJL.out.symm
                  rw [e]; exact hf.2.2), hb45, by omega⟩
              case measure => simp [intOf] <;> omega
            · have hnb : 0 < bs.length := by omega
              have hr : j % bs.length < bs.length := Nat.mod_lt _ hnb
              obtain ⟨qb, qo, rfl, hqb, hqc⟩ := (HB.out.below hbiw).at_ (k := j % bs.length) (fun _ => rfl) hr
              have hv := HV.out _ (List.getElem_mem hr)
              obtain ⟨v, hve⟩ : ∃ v, v = bs[j % bs.length] := ⟨_, rfl⟩
              rw [← hve] at hqc hv
              have z0 : wr.cell? ⟨qb, qo + j % bs.length, none⟩ = some (.int .u8 v) := by have := hqc 0 _ rfl; simpa using this
              obtain ⟨vn, rfl⟩ := Int.eq_ofNat_of_zero_le hv.1
              have hr2 : vn % M.length < M.length := Nat.mod_lt _ hm0
              obtain ⟨yb, yo, rfl, hyb, hyc⟩ := hsm.at_ (k := vn % M.length) (fun _ => rfl) hr2
              have y0 : wr.cell? ⟨yb, yo + vn % M.length, none⟩ = some (.int .i64 M[vn % M.length]) := by have := hyc 0 _ rfl; simpa using this
              have hf := HME.out _ (List.getElem_mem hr2)
              obtain ⟨f, hfe⟩ : ∃ f, f = M[vn % M.length] := ⟨_, rfl⟩
              rw [← hfe] at y0 hf
              have d1 : decide (0 < (bs.length : Int)) = true := by simp; omega
              have hvn : vn < 256 := by omega
              clear hyc hqc hsm howi hfe hve
              have hjl := HJL.out
              have HC5 : Hid (∀ (i : Nat) (u : Value), [Value.int .i64 f][i]? = some u → (wr.alloc (.cells #[.int .i64 f] 3)).cell? ((⟨wr.heap.size, 0, none⟩ : Addr).add i) = some u) := (fun i u hu => (by rw [Go.WideShapes.add_plain, Nat.zero_add, (Blk.new wr _ _).cell i, ← hu]; simp))
              clear hjl
              go_wp2_with (at_builtin; refine wpList_append_own _ rfl _ _ 28 rfl w.heap.size 3 i1 (.int .i64 0) 1 8 uInts hi1 iy0 iy1 iy2 rfl (by decide) _ _ _ rfl (HOK.out.alloc _) ⟨wr.heap.size, 0, none⟩ 1 1 [.int .i64 f] rfl rfl HC5.out (by simp [Value.oneCell']) (by unfold maxLen; omega) (by omega) (by simp; omega) ?_; intro v' w5 hown5 hgrow _)
              have hb45 : Below w.heap.size w w5 := (bla hbiw).grown hgrow (by simp; have := hbiw.size; omega) (fun g hg => own_ge hown.out hg)
              have hbz5 : wr.heap.size < w5.heap.size := by have := hgrow.size; simp at this; omega
              go_wp2
              go_roundw
              case rel => exact ⟨L ++ [f], by rw [List.length_append, ← HJL.out]; simp; omega, by rw [List.length_append, ← HJL.out]; simp, by
                rw [List.length_append, ← HJL.out]
                show World.ownsRow _ _ _ _ _ _ _
                simpa [flat] using hown5, picked_succ hpk.out (by rw [← HJL.out]; exact hlt) hf.1 (by omega) (by
                  have h := HX.out
                  have e : sets[L.length]'(by rw [← HJL.out]; exact hlt) = x := by rw [← h]; congr 1; exact HJL.out.symm
                  rw [e]; exact hf.2.2), hb45, by omega⟩
              case measure => simp [intOf] <;> omega
    · obtain rfl : j = sets.length := by omega
      obtain ⟨A', c', rfl, hs⟩ := Sl.of_own (l := L) (f := intCell) (by rw [← HJL.out]; exact hown.out)
      have hcap : A' = none → c' = 0 := fun e => by
        rcases hown.out.2 with ⟨hv, _⟩ | ⟨g, cap, cur, hv, _⟩
        · injection hv
        · rw [e] at hv; cases hv
      have HS := Lib.hid hs
      rw [← HJL.out]
      clear hs
      go_wp2
      refine bodyPost_ret (v := .tuple #[.slice A' sets.length c', .bool true]) (by simp [results, Try.results31, go_sem]) rfl ?_
      exact ⟨A', c', true, L, by rw [← HJL.out], HS.out, (fun _ => ⟨HJL.out.symm, hpk.out⟩), (fun h => by cases h), hcap, hbr⟩
end Go.Proofs.Ytidlmbajpbbilaa

/- The reference: Minimal. -/
import Derived.Test.YtidlmbajpbbilaaRgI
namespace Go.Proofs.Ytidlmbajpbbilaa
open Go.RowKit

theorem stepsM_ge (s : Sch) (O : Nat) : ∀ k, O ≤ stepsM s O k := stepsM_le s O
theorem passes_fix {s : Sch} {j : Nat} (h : passM s (passes s j) = passes s j) : ∀ d, passes s (j + d) = passes s j
  | 0 => rfl
  | d + 1 => by
    show passM s (passes s (j + d)) = _
    rw [passes_fix h d, h]
/-- what remains at the end is one set -/
theorem min_one {s : Sch} {R R' : Nat} (h : MinOk s R) (h' : MinOk s R') : R = R' := by
  obtain ⟨h1, j, rfl⟩ := h
  obtain ⟨h2, j', rfl⟩ := h'
  rcases Nat.le_total j j' with h | h
  · obtain ⟨d, rfl⟩ := Nat.le.dest h
    exact (passes_fix h1 d).symm
  · obtain ⟨d, rfl⟩ := Nat.le.dest h
    exact passes_fix h2 d
theorem stepM_lt' {s : Sch} {O i : Nat} (h : O.testBit i = false) (h2 : sameB s (O ||| 2 ^ i) = true) : stepM s O i = O ||| 2 ^ i ∧ O < O ||| 2 ^ i := by
  refine ⟨by simp [stepM, h, h2], ?_⟩
  have h1 : O ≤ O ||| 2 ^ i := Nat.left_le_or
  have hne : O ≠ O ||| 2 ^ i := fun e => by
    have : (O ||| 2 ^ i).testBit i = true := by simp [Nat.testBit_or, Nat.testBit_two_pow]
    rw [← e, h] at this; cases this
  omega
/-- what Minimal of the reference knows: bl the list, O the rules that are out -/
structure MinI (s : Sch) (w : World) (bl : Nat) (O : Nat) (W : World) : Prop where
  low : Below w.heap.size w W
  q : Blk W w.heap.size #[.int .i64 s.places, .int .i64 s.signs, .int .i64 s.kinds, .int .i64 s.answers, s.rv] 24
  o : Blk W (w.heap.size + 1) ((bitsB O s.rules.length).map Value.bool).toArray 4
  l : W.ownsRow bl 3 1 (.slice (some ⟨bl, 0, none⟩) 0 0) 0 []
  h : w.heap.size + 1 < bl
  z : bl < W.heap.size
section
variable {s : Sch} {w W W' : World} {bl O : Nat}
theorem MinI.below (h : MinI s w bl O W) (hb : Below W.heap.size W W') : MinI s w bl O W' := by
  have h1 := h.h; have h2 := h.z; have h3 := hb.size
  exact ⟨bl2 h.low hb, h.q.below hb (by omega), h.o.below hb (by omega), h.l.kept (grown_of_below hb) (by simp [Value.ownBlock]), h1, by omega⟩
theorem MinI.put {i O' : Nat} {b : Bool} (h : MinI s w bl O W) (e : (bitsB O s.rules.length).set i b = bitsB O' s.rules.length) : MinI s w bl O' (W.setCell ⟨w.heap.size + 1, i, none⟩ (.bool b)) := by
  have h1 := h.h; have h2 := h.z
  refine ⟨h.low.setCell (by simp) _, h.q.far _ (by simp) _, ?_, own_put h.l h1 _ _, h1, by simpa using h2⟩
  have := h.o.set i (.bool b)
  rw [bools_set, e] at this
  exact this
theorem MinI.get (h : MinI s w bl O W) {i : Nat} (hi : i < s.rules.length) : W.cell? ⟨w.heap.size + 1, i, none⟩ = some (.bool (O.testBit i)) := by
  rw [h.o.cell]; simp [bitsB, hi]
end
/-- the set that a block of bools holds -/
def maskW (W : World) (b n : Nat) : Nat := match W.heap[b]? with
  | some (.cells cur _ _) => bset (fun i => match cur[i]? with | some (.bool x) => x | _ => false) n
  | _ => 0
theorem maskW_of {W : World} {b n O : Nat} (h : Blk W b ((bitsB O n).map Value.bool).toArray 4) (hO : O < 2 ^ n) : maskW W b n = O := by
  have h' : W.heap[b]? = some _ := h
  simp only [maskW, h']
  refine Nat.eq_of_testBit_eq fun i => ?_
  rw [bset_testBit]
  by_cases hi : i < n
  · have e : ((bitsB O n).map Value.bool).toArray[i]? = some (.bool (O.testBit i)) := by simp [bitsB, hi]
    rw [e]; simp [hi]
  · have : O.testBit i = false := Nat.testBit_lt_two_pow (Nat.lt_of_lt_of_le hO (Nat.pow_le_pow_right (by omega) (by omega)))
    simp [hi, this]
def boolOf (v : Value) : Nat := match v with | .bool true => 1 | _ => 0
def minLk (s : Sch) (R k : Nat) : List Int := ((List.range k).filter fun i => !R.testBit i).map fun (i : Nat) => (i : Int)
theorem minLk_succ (s : Sch) (R k : Nat) : minLk s R (k + 1) = minLk s R k ++ if R.testBit k then [] else [(k : Int)] := by
  unfold minLk
  rw [List.range_succ, List.filter_append, List.map_append]
  cases h : R.testBit k <;> simp [h]
theorem minLk_len (s : Sch) (R k : Nat) : (minLk s R k).length ≤ k := by
  unfold minLk
  rw [List.length_map]
  exact Nat.le_trans (List.length_filter_le _ _) (by simp)
def RetMinR (s : Sch) (w : World) (e : Ending) (w' : World) : Prop := ∃ R, MinOk s R ∧ RetOwn 3 intCell 1 (minL s R) w e w'
set_option maxRecDepth 100000 in
set_option maxHeartbeats 8000000 in
theorem rminimal_any (s : Sch) (hv : schB s = true) (w : World) (hr : s.reads w w.heap.size) : Calls Try.prog 48 #[scv s s.rv] w (RetMinR s w) := by
  obtain ⟨i0, hi, iz0, iz1, iz2⟩ := info_parts infoBool
  obtain ⟨i1, hi1, iy0, iy1, iy2⟩ := info_parts infoInt
  have V := valid_of hr.oks hv
  have hlen := V.len
  have HRR := Lib.hid hr; have HV := Lib.hid hv
  clear hr V hv
  go_enter Try.func48, Try.ntmps48
  go_wp2_with (at_make; refine wpList_make_blk _ rfl _ _ 97 rfl 4 i0 (.bool false) uBools hi iz0 iz1 rfl .i64 .i64 _ _ s.rules.length rfl rfl rfl rfl (by rw [iz2]; omega) (by unfold maxLen; omega) ?_; intro W1 gS bS)
  have gS' : Blk W1 (w.heap.size + 1) ((bitsB 0 s.rules.length).map Value.bool).toArray 4 := by rw [bitsB_zero, List.map_replicate]; simpa using gS
  have hz1 := gS'.lt
  have gq : Blk W1 w.heap.size #[.int .i64 s.places, .int .i64 s.signs, .int .i64 s.kinds, .int .i64 s.answers, s.rv] 24 := (Blk.at_ rfl).below bS (by simp)
  have hbw : Below w.heap.size w W1 := bl2 (bla (Below.refl _ _)) bS
  refine Lib.hid ?_
  go_wp2
  obtain ⟨bl, hbl⟩ : ∃ b, b = W1.heap.size := ⟨_, rfl⟩
  rw [← hbl]
  refine gen_w (fun W => MinI s w bl 0 W) ⟨hbw.alloc hbw.size _, gq.alloc _, gS'.alloc _, by
    have := World.ownsRow_made (e := 3) (size := 1) W1 #[] 0 (base := W1.heap.size) (by simp) (by simp) (by simp)
    rw [hbl]; simpa using this, by omega, by simp; omega⟩ ?_
  clear gS gS' hz1 gq hbw bS hbl
  clear W1
  intro w0 h0
  have H0 := Lib.hid h0
  clear h0
  go_loopw [5] (fun m wr => ∃ (j : Nat) (b : Bool), m = .bool b ∧ Hid (MinI s w bl (passes s j) wr) ∧ Hid (b = false → passM s (passes s j) = passes s j)) (fun m W => boolOf m + (2 ^ s.rules.length - maskW W (w.heap.size + 1) s.rules.length))
  case atStart => exact ⟨0, true, rfl, H0, fun h => by cases h⟩
  case round =>
    obtain ⟨j, b, rfl, HM, hb⟩ := hrel
    cases b with
    | true =>
      clear hb
      obtain ⟨O, hO⟩ : ∃ O, O = passes s j := ⟨_, rfl⟩
      have HOE := Lib.hid hO
      have hOl : Hid (O < 2 ^ s.rules.length) := (by rw [hO]; exact passes_lt s j : O < 2 ^ s.rules.length)
      rw [← hO] at HM
      clear hO
      have s4 := HM.out.q.cell 4
      simp at s4
      have hw1 : IntKind.i64.wrap ((s.rules.length : Int) - 1) = (s.rules.length : Int) - 1 := IntWalk.i64_in _ (by omega)
      go_wp2
      clear s4
      rename World => wo
      go_loopw [5, 6] (fun m i wr => ∃ k : Nat, k ≤ s.rules.length ∧ i = .int .i64 ((s.rules.length : Int) - 1 - k) ∧ m = .bool (stepsM s O k != O) ∧ Hid (MinI s w bl (stepsM s O k) wr)) (fun _ i _ => (intOf i + 1).toNat)
      case atStart => exact ⟨0, by omega, by simp, by simp [stepsM], HM⟩
      case round =>
        obtain ⟨k, hk, rfl, rfl, HI⟩ := hrel
        by_cases hlt : k < s.rules.length
        · obtain ⟨x, hx⟩ : ∃ x : Nat, x = s.rules.length - 1 - k := ⟨_, rfl⟩
          have e : ((s.rules.length : Int) - 1 - k) = (x : Int) := by omega
          have hst : stepsM s O (k + 1) = stepM s (stepsM s O k) x := by rw [hx]; rfl
          have HST := Lib.hid hst
          have hxl : x < s.rules.length := by omega
          have hx0 : (0 : Int) ≤ (x : Int) := by omega
          have hx1 : (x : Int) < (s.rules.length : Int) := by omega
          have hgeP := stepsM_ge s O k
          have e2 : ((s.rules.length : Int) - 1 - ((k + 1 : Nat) : Int)) = (x : Int) - 1 := by omega
          have HE2 := Lib.hid e2
          rw [e]
          clear hx hst e e2
          obtain ⟨P, hP⟩ : ∃ P, P = stepsM s O k := ⟨_, rfl⟩
          rw [← hP] at HI HST hgeP ⊢
          clear hP
          have c0 := HI.out.get hxl
          have hw2 : IntKind.i64.wrap ((x : Int) - 1) = (x : Int) - 1 := IntWalk.i64_in _ (by omega)
          cases hb : P.testBit x with
          | true =>
            rw [hb] at c0
            have hsm : Hid (stepsM s O (k + 1) = P) := (by rw [HST.out]; simp [stepM, hb] : stepsM s O (k + 1) = P)
            go_wp2
            go_roundw
            case rel => exact ⟨k + 1, by omega, by rw [HE2.out], by rw [hsm.out], by rw [hsm.out]; exact HI⟩
            case measure => simp [intOf] <;> omega
          | false =>
            rw [hb] at c0
            have f0 := HI.out.o.free x
            have lz := HI.out.z; have lh := HI.out.h
            have t0 := HI.out.q.cell 0; have t1 := HI.out.q.cell 1; have t2 := HI.out.q.cell 2; have t3 := HI.out.q.cell 3; have t4 := HI.out.q.cell 4
            simp at t0 t1 t2 t3 t4
            obtain ⟨W2, hW2⟩ : ∃ W, W = wr.setCell ⟨w.heap.size + 1, x, none⟩ (.bool true) := ⟨_, rfl⟩
            have HI2 : Hid (MinI s w bl (P ||| 2 ^ x) W2) := (by rw [hW2]; exact HI.out.put (bitsB_set hxl) : MinI s w bl (P ||| 2 ^ x) W2)
            have HSM := Lib.hid (rsame_any s HV.out (P ||| 2 ^ x) (some ⟨w.heap.size + 1, 0, none⟩) s.rules.length W2 ((HRR.out.below HI2.out.low).more HI2.out.low.size) (sl_of_bools HI2.out.o))
            have HW2 := Lib.hid hW2
            clear hW2
            cases hs : sameB s (P ||| 2 ^ x) with
            | true =>
              rw [hs] at HSM
              obtain ⟨h1, h2⟩ := stepM_lt' hb hs
              have hsm : Hid (stepsM s O (k + 1) = P ||| 2 ^ x) := (by rw [HST.out, h1] : stepsM s O (k + 1) = P ||| 2 ^ x)
              have hne : Hid ((P ||| 2 ^ x != O) = true) := (by simp only [bne_iff_ne, ne_eq]; omega : (P ||| 2 ^ x != O) = true)
              clear h1 h2
              go_wp2_with (go_at_call 81; rw [← HW2.out]; refine HSM.out.mono ?_; rintro _ W3 ⟨rfl, hb3⟩)
              go_roundw
              case rel => exact ⟨k + 1, by omega, by rw [HE2.out], by rw [hsm.out, hne.out], by rw [hsm.out]; exact HI2.out.below hb3⟩
              case measure => simp [intOf] <;> omega
            | false =>
              rw [hs] at HSM
              have hsm : Hid (stepsM s O (k + 1) = P) := (by rw [HST.out]; simp [stepM, hb, hs] : stepsM s O (k + 1) = P)
              go_wp2_with (go_at_call 81; rw [← HW2.out]; refine HSM.out.mono ?_; rintro _ W3 ⟨rfl, hb3⟩; have HI3 := Lib.hid (HI2.out.below hb3); have c3 := HI3.out.get hxl; have f3 := HI3.out.o.free x)
              go_roundw
              case rel => exact ⟨k + 1, by omega, by rw [HE2.out], by rw [hsm.out], by rw [hsm.out]; exact HI3.out.put (bitsB_unset hxl hb)⟩
              case measure => simp [intOf] <;> omega
        · obtain rfl : k = s.rules.length := by omega
          have e : ((s.rules.length : Int) - 1 - s.rules.length) = -1 := by omega
          rw [e]
          obtain ⟨Q, hQ⟩ : ∃ Q, Q = stepsM s O s.rules.length := ⟨_, rfl⟩
          have hge := stepsM_ge s O s.rules.length
          have hQl := stepsM_lt hOl.out _ (Nat.le_refl s.rules.length)
          have HQ1 : Hid (passes s (j + 1) = Q) := (by show passM s (passes s j) = Q; rw [hQ, HOE.out]; rfl : passes s (j + 1) = Q)
          have HQ2 : Hid (Q = O → passM s Q = Q) := (fun e2 => by
            have h1 : passM s O = Q := by rw [hQ]; rfl
            rw [e2] at h1 ⊢; exact h1 : Q = O → passM s Q = Q)
          rw [← hQ] at HI hge hQl ⊢
          clear hQ e
          have hm1 : Hid (maskW wr (w.heap.size + 1) s.rules.length = Q) := (maskW_of HI.out.o hQl : maskW wr (w.heap.size + 1) s.rules.length = Q)
          have hm2 : Hid (maskW wo (w.heap.size + 1) s.rules.length = O) := (maskW_of HM.out.o hOl.out : maskW wo (w.heap.size + 1) s.rules.length = O)
          cases hne : Q != O with
          | true =>
            have hgt : O < Q := by simp only [bne_iff_ne, ne_eq] at hne; omega
            go_wp2
            go_roundw
            case rel => exact ⟨j + 1, true, rfl, by rw [HQ1.out]; exact HI, fun h => by cases h⟩
            case measure => rw [hm1.out, hm2.out]; simp [boolOf]; omega
          | false =>
            have heq : Q = O := by simpa using hne
            go_wp2
            go_roundw
            case rel => exact ⟨j + 1, false, rfl, by rw [HQ1.out]; exact HI, fun _ => by rw [HQ1.out]; exact HQ2.out heq⟩
            case measure => rw [hm1.out, hm2.out]; simp [boolOf]; omega
    | false =>
      obtain ⟨R, hR⟩ : ∃ R, R = passes s j := ⟨_, rfl⟩
      have hmo : Hid (MinOk s R) := (⟨by rw [hR]; exact hb.out rfl, j, hR⟩ : MinOk s R)
      rw [← hR] at HM
      clear hb hR
      go_wp2
      rename World => wo
      go_loopw [4, 7] (fun v i wr => ∃ k : Nat, k ≤ s.rules.length ∧ i = .int .i64 k ∧ Hid (wr.ownsRow bl 3 1 v (minLk s R k).length (flat intCell (minLk s R k))) ∧ Hid (Below bl wo wr) ∧ bl < wr.heap.size) (fun _ i _ => s.rules.length - (intOf i).toNat)
      case atStart => exact ⟨0, by omega, rfl, HM.out.l, Below.refl _ _, HM.out.z⟩
      case round =>
        obtain ⟨k, hk, rfl, hown, hbw, hzr⟩ := hrel
        have hbl := HM.out.h
        by_cases hlt : k < s.rules.length
        · have go := HM.out.o.below hbw.out hbl
          have c0 : wr.cell? ⟨w.heap.size + 1, k, none⟩ = some (.bool (R.testBit k)) := by rw [go.cell]; simp [bitsB, hlt]
          have hk0 : (0 : Int) ≤ (k : Int) := by omega
          have hk1 : (k : Int) < (s.rules.length : Int) := by omega
          clear go
          cases hb : R.testBit k with
          | true =>
            rw [hb] at c0
            go_wp2
            go_roundw
            case rel => exact ⟨k + 1, by omega, by go_num, by
              have e : minLk s R (k + 1) = minLk s R k := by rw [minLk_succ, hb]; simp
              rw [e]; exact hown, hbw, hzr⟩
            case measure => simp [intOf] <;> omega
          | false =>
            rw [hb] at c0
            have hil := minLk_len s R k
            have HC5 : Hid (∀ (i : Nat) (u : Value), [Value.int .i64 (k : Int)][i]? = some u → (wr.alloc (.cells #[.int .i64 (k : Int)] 3)).cell? ((⟨wr.heap.size, 0, none⟩ : Addr).add i) = some u) := (fun i u hu => (by rw [Go.WideShapes.add_plain, Nat.zero_add, (Blk.new wr _ _).cell i, ← hu]; simp))
            go_wp2_with (at_builtin; refine wpList_append_own _ rfl _ _ 28 rfl bl 3 i1 (.int .i64 0) 1 8 uInts hi1 iy0 iy1 iy2 rfl (by decide) _ _ _ rfl (hown.out.alloc _) ⟨wr.heap.size, 0, none⟩ 1 1 [.int .i64 (k : Int)] rfl rfl HC5.out (by simp [Value.oneCell']) (by unfold maxLen; omega) (by omega) (by simp; omega) ?_; intro v' w5 hown5 hgrow _)
            have hb45 : Below bl wr w5 := ((Below.refl _ _).alloc (by omega) _).grown hgrow (by simp; omega) (fun g hg => own_ge hown.out hg)
            have hbz5 : wr.heap.size < w5.heap.size := by have := hgrow.size; simp at this; omega
            go_wp2
            go_roundw
            case rel => exact ⟨k + 1, by omega, by go_num, by
              have e : minLk s R (k + 1) = minLk s R k ++ [(k : Int)] := by rw [minLk_succ, hb]; simp
              rw [e]
              show World.ownsRow _ _ _ _ _ _ _
              simpa [flat] using hown5, hbw.out.trans hb45, by omega⟩
            case measure => simp [intOf] <;> omega
        · obtain rfl : k = s.rules.length := by omega
          go_wp2
          go_ret
          exact ⟨R, hmo.out, _, rfl, own_base hown.out (by omega), HM.out.low.trans (hbw.out.mono (by omega))⟩
end Go.Proofs.Ytidlmbajpbbilaa

/- odds: Mix, the walk. -/
import Derived.Test.YtmfbiohdmhbkoaaHa
import Derived.Test.YtmfbiohdmhbkoaaGo
import Derived.Test.YtmfbiohdmhbkoaaGi
import Derived.Deep.RegionHeld
import Derived.Deep.DeepCutAuto
namespace Go.Proofs.Ytmfbiohdmhbkoaa
open Go.RowKit

theorem ent_mix1 : Ent 60 := ent_of Try.func60 (by kernel_rfl) rfl
/-- the lists alone -/
def plL (ls : List LL) : List (List Int) := ls.map LL.l
theorem plL_get (ls : List LL) {k : Nat} (h : k < ls.length) : (plL ls).getD k [] = ls[k].l := by simp [plL, h]
theorem plL_len (ls : List LL) : (plL ls).length = ls.length := by simp [plL]
def neLen (n : Nat) (x : LL) : Bool := x.l.length != n
theorem mix1_any (t : LL) (A : Option Addr) (c : Nat) (ls : List LL) (sb : Nat) (W : World) (g : Blk W sb #[.slice A ls.length c] 31) (h0 : 0 < ls.length) (hr : Lists W W.heap.size A ls) (hm : ∀ x ∈ ls, x.l.length ≤ 1000000000) (_ht : t.l.length ≤ 1000000000) :
    Calls Try.prog 60 (#[t.val] ++ #[.pointer (some ⟨sb, 0, none⟩)]) W fun e W' => e = .returned (.bool (neLen (ls[0]'h0).l.length t)) ∧ Below W.heap.size W W' := by
  have c0 := g.cell 0
  obtain ⟨b, o, rfl, hb, hc, -⟩ := hr.at_ h0
  have hm0 := hm _ (List.getElem_mem h0)
  have HT : Hid (neLen (ls[0]'h0).l.length t = ((t.l.length : Int) != ((ls[0]'h0).l.length : Int))) := (by
    unfold neLen
    by_cases e : t.l.length = (ls[0]'h0).l.length
    · simp [e]
    · have h1 : (t.l.length != (ls[0]'h0).l.length) = true := by simpa using e
      have h2 : ((t.l.length : Int) != ((ls[0]'h0).l.length : Int)) = true := by simp; omega
      rw [h1, h2] : neLen (ls[0]'h0).l.length t = _)
  obtain ⟨n, hn⟩ : ∃ n, n = (ls[0]'h0).l.length := ⟨_, rfl⟩
  obtain ⟨k, hk⟩ : ∃ n, n = ls.length := ⟨_, rfl⟩
  obtain ⟨x, hx⟩ : ∃ x, x = ls[0]'h0 := ⟨_, rfl⟩
  rw [← hx] at hn hc HT hm0
  rw [← hn] at HT hc hm0
  rw [← hx, ← hn]
  rw [← hk] at c0 h0
  simp at c0
  clear hx hn hk hr hm g
  simp only [Nat.add_zero] at hc
  have hk0 : (0 : Int) < (k : Int) := by omega
  unfold LL.val
  go_enter Try.func60, Try.ntmps60
  go_wp2
  go_ret
  exact ⟨ret_bool HT.out.symm, by (repeat (first | exact Below.refl _ _ | assumption | (refine Below.alloc ?_ (by first | omega | (simp; omega) | (simp; done)) _) | (refine Below.setCell ?_ (by first | omega | (simp; omega) | (simp; done)) _) | (refine Below.drew ?_) | (refine belowN ?_ _) | (refine Below.trans ?_ (Below.mono ‹Below _ _ _› (by first | omega | (simp; omega) | (simp; done))))))⟩
theorem errsW_all : ∀ {ls : List LL}, errsW ls = 0 → ∀ x ∈ ls, errW x.l = 0
  | [], _, x, hx => by cases hx
  | y :: l, h, x, hx => by
    simp only [errsW] at h
    by_cases e : errW y.l = 0
    · rw [if_neg (fun hh => hh e)] at h
      rcases List.mem_cons.1 hx with rfl | hx
      · exact e
      · exact errsW_all h x hx
    · rw [if_pos e] at h; exact absurd h e
section
variable {cs : List Int} {L : List (List Int)} {el : Int}
theorem mixR_1 (h : errW cs ≠ 0) : mixR cs L el = ([], errW cs) := by unfold mixR; rw [if_pos h]
theorem mixR_2 (h : errW cs = 0) (h2 : L.length ≠ cs.length) : mixR cs L el = ([], 2) := by unfold mixR; rw [if_neg (fun hh => hh h), if_pos h2]
theorem mixR_3 (h : errW cs = 0) (h2 : L.length = cs.length) (h3 : el ≠ 0) : mixR cs L el = ([], el) := by unfold mixR; rw [if_neg (fun hh => hh h), if_neg (fun hh => hh h2), if_pos h3]
theorem mixR_4 (h : errW cs = 0) (h2 : L.length = cs.length) (h3 : el = 0) (h4 : L.any (fun l => l.length != (L.getD 0 []).length) = true) : mixR cs L el = ([], 2) := by
  unfold mixR; rw [if_neg (fun hh => hh h), if_neg (fun hh => hh h2), if_neg (fun hh => hh h3), if_pos h4]
theorem mixR_5 (h : errW cs = 0) (h2 : L.length = cs.length) (h3 : el = 0) (h4 : L.any (fun l => l.length != (L.getD 0 []).length) = false) : mixR cs L el = match comTo (lowL cs) L L.length with
    | none => ([], 10)
    | some m => if 1000000000000000 < sumL (lowL cs) * m then ([], 10) else (lowL (mixO (lowL cs) L m (L.getD 0 []).length (fun _ => true)), 0) := by
  unfold mixR; rw [if_neg (fun hh => hh h), if_neg (fun hh => hh h2), if_neg (fun hh => hh h3), if_neg (by rw [h4]; decide)]; rfl
end
theorem any_pl (ls : List LL) (n : Nat) : (plL ls).any (fun l => l.length != n) = ls.any (neLen n) := by
  unfold plL neLen; rw [List.any_map]; rfl
theorem sum_arr {b n : Nat} {T : List Int} {W : World} (h : Arr W b T) (hn : T.length = n) (ok : OkW T) : Calls Try.prog 57 #[slB b n] W fun e w' => e = .returned (.int .i64 (sumL T)) ∧ W = w' := by
  have h1 := ok.len; have h2 := ok.le
  have := sum_any (some ⟨b, 0, none⟩) n T W (by omega) ok.nn (by omega) h.sl
  rw [hn] at this
  exact this
theorem Arr.drew {W : World} {b : Nat} {l : List Int} (h : Arr W b l) : Arr W.drew b l := h
theorem wrapI {a : Int} (h0 : -9223372036854775808 ≤ a) (h1 : a ≤ 9223372036854775807) : IntKind.i64.wrap a = a := by rw [IntKind.wrap_i64]; omega
theorem mixT_eq {C : List Int} {ls : List (List Int)} {m : Int} {i j : Nat} (hc : C.getD i 0 ≠ 0) : mixT C ls m j i = (lowL (ls.getD i [])).getD j 0 * (C.getD i 0 * (m / sumL (lowL (ls.getD i [])))) := by unfold mixT; rw [if_neg hc]
theorem wfn {n : Nat} (h : n < 1000000) : (Lit.int .i64 (n : Int)).wf = true := WalkArith.wf_i64 (by omega)
theorem comTo_zero {C : List Int} {L : List (List Int)} {k : Nat} {m : Int} (h : comTo C L k = some m) (hc : C.getD k 0 = 0) : comTo C L (k + 1) = some m := by
  simp only [comTo, h, if_pos hc]
theorem comTo_yes {C : List Int} {L : List (List Int)} {k : Nat} {m q : Int} (h : comTo C L k = some m) (hc : C.getD k 0 ≠ 0) (hq : sumL (lowL (L.getD k [])) / gI m (sumL (lowL (L.getD k []))) = q) (hb : m * q ≤ 1000000000000000) : comTo C L (k + 1) = some (m * q) := by
  simp only [comTo, h, if_neg hc, hq, if_pos hb]
theorem comTo_no {C : List Int} {L : List (List Int)} {k : Nat} {m q : Int} (h : comTo C L k = some m) (hc : C.getD k 0 ≠ 0) (hq : sumL (lowL (L.getD k [])) / gI m (sumL (lowL (L.getD k []))) = q) (hb : ¬ m * q ≤ 1000000000000000) : comTo C L (k + 1) = none := by
  simp only [comTo, h, if_neg hc, hq, if_neg hb]
set_option maxRecDepth 100000 in
set_option maxHeartbeats 20000000 in
theorem mix_any (A B : Option Addr) (c d : Nat) (cs : List Int) (ls : List LL) (w : World) (hm : cs.length ≤ 1000000000) (hn : ls.length ≤ 1000000) (hml : ∀ x ∈ ls, x.l.length ≤ 1000000000) (hr : Sl intCell 1 w w.heap.size A cs) (hrl : Lists w w.heap.size B ls) :
    Calls Try.prog 21 #[.slice A cs.length c, .slice B ls.length d] w (RetSlE (mixR cs (plL ls) (errsW ls)).1 (mixR cs (plL ls) (errsW ls)).2 w) := by
  have HC := Lib.hid (fun W (hW : Below w.heap.size w W) => check_any A c cs W hm ((hr.below hW).more hW.size))
  have HCS := Lib.hid (fun W (hW : Below w.heap.size w W) => checks_any B d ls W hn hml ((hrl.below hW).more hW.size))
  have hll : (plL ls).length = ls.length := plL_len ls
  by_cases he : errW cs = 0
  · have HE := Lib.hid he
    by_cases hlen : ls.length = cs.length
    · have hne : ((ls.length : Int) != (cs.length : Int)) = false := by simp [hlen]
      by_cases hel : errsW ls = 0
      · have HE2 := Lib.hid hel
        have ok := errW_zero.1 he
        have h0 : 0 < ls.length := by have := ok.pos_len; omega
        have HA := Lib.hid (fun W sb (hW : Below w.heap.size w W) (g : Blk W sb #[.slice B ls.length d] 31) => listsany_any 60 #[.pointer (some ⟨sb, 0, none⟩)] B d ls (neLen (ls[0]'h0).l.length) W ent_mix1 hn ((hrl.top.below hW).more hW.size) (fun t ht W' hb => mix1_any t B d ls sb W' (g.below hb g.lt) h0 ((hrl.below (bl2 hW hb)).more (bl2 hW hb).size) hml (hml t ht)))
        have e0 : (plL ls).getD 0 [] = (ls[0]'h0).l := plL_get ls h0
        by_cases hany : ls.any (neLen (ls[0]'h0).l.length) = true
        · have HT : Hid (mixR cs (plL ls) (errsW ls) = ([], 2)) := (mixR_4 he (by rw [hll]; exact hlen) hel (by rw [e0, any_pl]; exact hany) : mixR cs (plL ls) (errsW ls) = _)
          rw [hany] at HA
          clear hr hrl he hel ok hany e0 hlen hll
          go_enter Try.func21, Try.ntmps21
          go_wp2_with (first | (go_at_call 31; refine (HC.out _ (by (repeat (first | exact Below.refl _ _ | assumption | (refine Below.alloc ?_ (by first | omega | (simp; omega) | (simp; done)) _) | (refine Below.setCell ?_ (by first | omega | (simp; omega) | (simp; done)) _) | (refine Below.drew ?_) | (refine belowN ?_ _) | (refine Below.trans ?_ (Below.mono ‹Below _ _ _› (by first | omega | (simp; omega) | (simp; done)))))))).mono ?_; rintro _ _ ⟨rfl, rfl⟩; rw [HE.out]) | (go_at_call 58; refine (HCS.out _ (by (repeat (first | exact Below.refl _ _ | assumption | (refine Below.alloc ?_ (by first | omega | (simp; omega) | (simp; done)) _) | (refine Below.setCell ?_ (by first | omega | (simp; omega) | (simp; done)) _) | (refine Below.drew ?_) | (refine belowN ?_ _) | (refine Below.trans ?_ (Below.mono ‹Below _ _ _› (by first | omega | (simp; omega) | (simp; done)))))))).mono ?_; rintro _ _ ⟨rfl, rfl⟩; rw [HE2.out]) | (go_at_call 59; refine (HA.out _ _ (by (repeat (first | exact Below.refl _ _ | assumption | (refine Below.alloc ?_ (by first | omega | (simp; omega) | (simp; done)) _) | (refine Below.setCell ?_ (by first | omega | (simp; omega) | (simp; done)) _) | (refine Below.drew ?_) | (refine belowN ?_ _) | (refine Below.trans ?_ (Below.mono ‹Below _ _ _› (by first | omega | (simp; omega) | (simp; done))))))) (Blk.at_ rfl)).mono ?_; rintro _ w2 ⟨rfl, hb2⟩))
          go_ret2
          rw [HT.out]
          exact retSlE_nil (bl3 (Below.refl _ _) hb2)
        · simp only [Bool.not_eq_true] at hany
          have HT := Lib.hid (mixR_5 (el := errsW ls) he (by rw [hll]; exact hlen) hel (by rw [e0, any_pl]; exact hany))
          have HOKS := errsW_all hel
          have HNE : ∀ x ∈ ls, x.l.length = (ls[0]'h0).l.length := fun x hx => by
            have := List.any_eq_false.1 hany x hx
            simpa [neLen] using this
          have MK : MixOk (lowL cs) (plL ls) (ls[0]'h0).l.length := ⟨by rw [hll, lowL_len]; exact hlen, low_nn ok, fun i hi => by
            rw [hll] at hi
            rw [plL_get ls hi]; exact errW_zero.1 (HOKS _ (List.getElem_mem hi)), fun i hi => by
            rw [hll] at hi
            rw [plL_get ls hi]; exact HNE _ (List.getElem_mem hi)⟩
          have HMK := Lib.hid MK
          have HLEN := Lib.hid hlen
          rw [hany] at HA
          have HLW := Lib.hid (fun W (hW : Below w.heap.size w W) => lowest_new A c cs W ok ((hr.below hW).more hW.size))
          have HRL := Lib.hid hrl
          rw [e0] at HT
          obtain ⟨len, hlenE⟩ : ∃ n, n = (ls[0]'h0).l.length := ⟨_, rfl⟩
          rw [← hlenE] at HT HMK
          clear hr hrl he hel hany e0 hlen MK HNE hlenE hne
          have hne : ((ls.length : Int) != (cs.length : Int)) = false := by have := HLEN.out; simp [this]
          obtain ⟨C, hC⟩ : ∃ C, C = lowL cs := ⟨_, rfl⟩
          rw [← hC] at HLW HT HMK
          have CLEN : C.length = ls.length := by rw [hC, lowL_len]; exact HLEN.out.symm
          have HCL := Lib.hid CLEN
          have LQ := Lib.hid (low_ok ok)
          rw [← hC] at LQ
          clear hC CLEN
          have lsl : ls.length ≤ 4096 := by have := ok.len; have := HLEN.out; omega
          clear ok
          have hmm := @run_makeMap Try.prog
          go_enter Try.func21, Try.ntmps21
          go_wp2_with (first | (go_at_call 31; refine (HC.out _ (by (repeat (first | exact Below.refl _ _ | assumption | (refine Below.alloc ?_ (by first | omega | (simp; omega) | (simp; done)) _) | (refine Below.setCell ?_ (by first | omega | (simp; omega) | (simp; done)) _) | (refine Below.drew ?_) | (refine belowN ?_ _) | (refine Below.trans ?_ (Below.mono ‹Below _ _ _› (by first | omega | (simp; omega) | (simp; done)))))))).mono ?_; rintro _ _ ⟨rfl, rfl⟩; rw [HE.out]) | (go_at_call 58; refine (HCS.out _ (by (repeat (first | exact Below.refl _ _ | assumption | (refine Below.alloc ?_ (by first | omega | (simp; omega) | (simp; done)) _) | (refine Below.setCell ?_ (by first | omega | (simp; omega) | (simp; done)) _) | (refine Below.drew ?_) | (refine belowN ?_ _) | (refine Below.trans ?_ (Below.mono ‹Below _ _ _› (by first | omega | (simp; omega) | (simp; done)))))))).mono ?_; rintro _ _ ⟨rfl, rfl⟩; rw [HE2.out]) |
            (go_at_call 59; refine (HA.out _ _ (by (repeat (first | exact Below.refl _ _ | assumption | (refine Below.alloc ?_ (by first | omega | (simp; omega) | (simp; done)) _) | (refine Below.setCell ?_ (by first | omega | (simp; omega) | (simp; done)) _) | (refine Below.drew ?_) | (refine belowN ?_ _) | (refine Below.trans ?_ (Below.mono ‹Below _ _ _› (by first | omega | (simp; omega) | (simp; done))))))) (Blk.at_ rfl)).mono ?_; rintro _ w2 ⟨rfl, hb2⟩; have gB : Blk w2 w.heap.size #[.slice B ls.length d] 31 := (Blk.at_ rfl).below hb2 (by simp); have c00 := gB.cell 0; simp at c00; have hw2 : Below w.heap.size w w2 := bl3 (Below.refl _ _) hb2) |
            (go_at_call 61; refine (HLW.out _ hw2).mono ?_; rintro _ w3 ⟨cb, rfl, hcb, hcb0, hb3⟩; have hw3 := bl2 hw2 hb3; have gB3 := gB.below hb3 gB.lt; have hz3 := gB3.lt; have c0 := gB3.cell 0; simp at c0))
          clear hmm
          obtain ⟨mb, hmb⟩ : ∃ n, n = w3.heap.size := ⟨_, rfl⟩
          rw [← hmb]
          refine gen_w (fun W => Blk W w.heap.size #[.slice B ls.length d] 31 ∧ Arr W cb C ∧ W.ownsMap Try.prog 3 heldE mb 0 (.map []) ∧ Below w.heap.size w W ∧ mb < W.heap.size) ⟨gB3.alloc _, hcb.alloc _, (by rw [hmb]; exact World.ownsMap_made w3 Try.prog 3 heldE), by (repeat (first | exact Below.refl _ _ | assumption | (refine Below.alloc ?_ (by first | omega | (simp; omega) | (simp; done)) _) | (refine Below.setCell ?_ (by first | omega | (simp; omega) | (simp; done)) _) | (refine Below.drew ?_) | (refine belowN ?_ _) | (refine Below.trans ?_ (Below.mono ‹Below _ _ _› (by first | omega | (simp; omega) | (simp; done)))))), by rw [hmb]; simp⟩ ?_
          rintro W4 ⟨g4, hc4, hm4, hw4, hz4⟩
          have hcm : cb < mb := by have := hcb.lt; omega
          have hwm : w.heap.size < mb := by omega
          have hwc : w.heap.size ≤ cb := Nat.le_trans hw2.size hcb0
          have HP4 := Lib.hid (Parts.empty C (plL ls) len mb W4)
          have HM4 := Lib.hid hm4; have HC4 := Lib.hid hc4; have HB4 := Lib.hid g4
          have HCT : Hid (comTo C (plL ls) 0 = some 1) := (rfl : comTo C (plL ls) 0 = some 1)
          clear g4 hc4 hm4 hcb hcb0 hb3 gB3 gB hb2 hw2 hw3 hz3 c0 c00 hmb HC HCS HA HLW
          clear w3 w2
          go_loopw [8, 43] (fun s8 i wr => ∃ (k : Nat) (m : Int) (D : DV), k ≤ ls.length ∧ i = .int .i64 k ∧ s8 = .int .i64 m ∧ 1 ≤ m ∧ m ≤ 1000000000000000 ∧ Hid (comTo C (plL ls) k = some m) ∧ Below w.heap.size w wr ∧ Hid (Blk wr w.heap.size #[.slice B ls.length d] 31) ∧ Hid (Arr wr cb C) ∧ Hid (wr.ownsMap Try.prog 3 heldE mb k D) ∧ Hid (Parts D C (plL ls) len mb k wr) ∧ mb < wr.heap.size) (fun _ i _ => ls.length - (intOf i).toNat)
          case atStart => exact ⟨0, 1, _, by omega, rfl, rfl, by omega, by omega, HCT, hw4, HB4, HC4, HM4, HP4, hz4⟩
          case round =>
            obtain ⟨k, m, D, hk, rfl, rfl, hm1, hm2, HCTk, hwr, HBr, HCr, HMr, HPr, hzr⟩ := hrel
            by_cases hlt : k < ls.length
            · obtain ⟨lb, lo, rfl, hlb, lc, hls⟩ := (HRL.out.below hwr).at_ hlt
              have kC : k < C.length := by have := HCL.out; omega
              have cc := HCr.out.at_ kC
              have eC := Lib.hid (getD_at C kC)
              obtain ⟨x0, x1⟩ := LQ.out.at_ kC
              have gb := HBr.out.cell 0
              simp at gb
              obtain ⟨x, hx⟩ : ∃ x, x = C[k] := ⟨_, rfl⟩
              rw [← hx] at cc eC x0 x1
              have hk0 : (0 : Int) ≤ (k : Int) := by omega
              have hkC : (k : Int) < (C.length : Int) := by omega
              have hkl : (k : Int) < (ls.length : Int) := by omega
              have nzm : w.heap.size ≠ mb ∧ cb ≠ mb := ⟨by omega, by omega⟩
              clear hx
              by_cases hx0 : x = 0
              · subst hx0
                have HCT1 := Lib.hid (comTo_zero HCTk.out eC.out)
                go_wp2
                go_roundw
                case rel => exact ⟨k + 1, m, D, by omega, by go_num, rfl, hm1, hm2, HCT1, hwr, HBr, HCr, HMr.out.mono (by omega), HPr.out.skip eC.out, hzr⟩
                case measure => simp [intOf]; omega
              · have hxb : (x == 0) = false := by simpa using hx0
                have hne0 : C.getD k 0 ≠ 0 := by rw [eC.out]; exact hx0
                have HNE0 := Lib.hid hne0
                have hgk := plL_get ls hlt
                have okk := HMK.out.ok k (by rw [hll]; exact hlt)
                have eqk := HMK.out.eq k (by rw [hll]; exact hlt)
                obtain ⟨t1, t2⟩ := HMK.out.t (i := k) (by rw [hll]; exact hlt)
                have HQY := Lib.hid (fun q h => comTo_yes (q := q) HCTk.out hne0 h)
                have HQN := Lib.hid (fun q h => comTo_no (q := q) HCTk.out hne0 h)
                have HGK := Lib.hid hgk
                rw [hgk] at okk eqk t1 t2 HQY HQN
                have okl := low_ok okk
                have HLk : Hid (∀ W, Below w.heap.size w W → Calls Try.prog 61 #[.slice ls[k].a ls[k].l.length ls[k].c] W fun e w' => ∃ b, e = .returned (slB b len) ∧ Arr w' b (lowL ls[k].l) ∧ W.heap.size ≤ b ∧ Below W.heap.size W w') := fun W hW =>
                  (lowest_new ls[k].a ls[k].c ls[k].l W okk (((HRL.out.at_ hlt).choose_spec.choose_spec.2.2.2.below hW).more hW.size)).mono fun _ _ ⟨b, h1, h2, h3, h4⟩ => ⟨b, by rw [h1, lowL_len, eqk], h2, h3, h4⟩
                have HTL : Hid ((lowL ls[k].l).length = len) := (by rw [lowL_len]; exact eqk : (lowL ls[k].l).length = len)
                have HPP := Lib.hid (fun (W : World) (b : Nat) (h : Parts D C (plL ls) len mb k W) (ha : Arr W b (lowL ls[k].l)) (hb : mb < b) => h.put hne0 (by rw [hgk]; exact ha) hb)
                have HKA := Lib.hid (fun (v : DV) zd => Go.Maps.atKey_put_same HPr.out.is (show WideAt.IsKeyLit (.int .i64 (k : Int)) from trivial) v zd)
                have wfk := wfn (n := k) (by omega)
                obtain ⟨la, hla⟩ : ∃ v, v = ls[k].a := ⟨_, rfl⟩
                obtain ⟨ll, hlle⟩ : ∃ v, v = ls[k].l.length := ⟨_, rfl⟩
                obtain ⟨lcap, hlc⟩ : ∃ v, v = ls[k].c := ⟨_, rfl⟩
                obtain ⟨T, hT⟩ : ∃ v, v = lowL ls[k].l := ⟨_, rfl⟩
                rw [← hla, ← hlle, ← hlc] at lc HLk
                rw [← hT] at HLk HTL HPP HQY HQN t1 t2 okl
                have OKT := Lib.hid okl
                obtain ⟨t, ht⟩ : ∃ v, v = sumL T := ⟨_, rfl⟩
                have HSM := Lib.hid (fun (W : World) (b : Nat) (h : Arr W b T) => sum_arr h HTL.out okl)
                rw [← ht] at HSM t1 t2 HQY HQN
                clear hla hlle hlc hT okl ht hls hgk okk eqk hne0 hlb
                have g0 := gI_pos (a := m) (b := t) (.inl (by omega))
                have HG := Lib.hid (fun W b' h => gcd2_any m t W b' h (by omega) (by omega) hm2 t2)
                have gd := Int.ediv_mul_cancel (gI_dvd_right (a := m) (b := t) (by omega))
                have g1 : 1 ≤ t / gI m t := Int.le_ediv_of_mul_le g0 (by have := gI_le_right m (show 0 < t by omega); omega)
                have g2 : t / gI m t ≤ t := Int.ediv_le_self _ (by omega)
                clear gd
                have HQY1 := Lib.hid (HQY.out _ rfl); have HQN1 := Lib.hid (HQN.out _ rfl)
                obtain ⟨q, hq⟩ : ∃ v, v = t / gI m t := ⟨_, rfl⟩
                obtain ⟨g, hg⟩ : ∃ v, v = gI m t := ⟨_, rfl⟩
                rw [← hq] at HQY1 HQN1 g1 g2
                rw [← hg] at HG g0 hq
                have eqq : t / g = q := hq.symm
                have gn : g ≠ 0 := by omega
                have HSS := Lib.hid (fun w => small_any m q w (by omega) (by omega) (by omega) (by omega))
                clear hq hg HQY HQN
                have HWR := Lib.hid hwr
                by_cases hsm : m * q ≤ 1000000000000000
                · rw [smallB_true hsm] at HSS
                  have mq1 : 1 ≤ m * q := by have := Int.mul_le_mul hm1 g1 (by omega) (by omega); omega
                  go_wp2_with (first |
                    (go_at_call 61; refine (HLk.out _ HWR.out).mono ?_; rintro _ w5 ⟨b, rfl, hab, hb0, hb5⟩; have hw5 := bl2 HWR.out hb5; have hm5 := ownsMap_below HMr.out hb5 hzr; have hmbb : mb < b := Nat.lt_of_lt_of_le hzr hb0; have hp5 := HPP.out w5 b (HPr.out.below hb5) hab hmbb; have hzz5 := hb5.size) |
                    (at_mapUpdate; refine wpList_mapUpdate_own _ rfl _ _ _ 75 rfl 3 22 keyInt Try.underlying75 heldE mb k D rfl hm5 (by unfold maxLen; omega) _ _ (.int .i64 (k : Int)) rfl rfl (Go.Maps.keyOf_int_mk Try.underlying3 wfk) (.held (slB b len)) [] rfl ?_; intro w6 hm6 hg6; have hw6 : Below w.heap.size w w6 := hw5.grown hg6 hw5.size (fun j e => by cases e; omega); have hp6 := hp5.grown hg6 (Nat.le_refl _); have ab6 := hab.grown hg6 (by intro e; cases e; omega); have gB6 := (HBr.out.below hb5 HBr.out.lt).grown hg6 (by intro e; cases e; omega); have gC6 := (HCr.out.below hb5 HCr.out.lt_).grown hg6 (by intro e; cases e; omega); have hz6 := hg6.size) |
                    (at_lookup; refine wpList_lookup_held _ rfl _ _ 75 rfl Try.underlying75 mb (k + 1) _ rfl hm6 _ (.int .i64 (k : Int)) rfl (Go.Maps.keyOf_int_mk Try.underlying3 wfk) (slB b len) (HKA.out _) ?_) |
                    (go_at_call 57; refine (HSM.out _ b ab6).mono ?_; rintro _ _ ⟨rfl, rfl⟩) |
                    (go_at_call 62; refine (HG.out _ _ (by first | omega | (simp; omega) | (simp; done))).mono ?_; rintro _ w7 ⟨rfl, hb7⟩; have hx7 : Below w6.heap.size w6 w7 := Below.trans (by (repeat (first | exact Below.refl _ _ | assumption | (refine Below.alloc ?_ (by first | omega | (simp; omega) | (simp; done)) _) | (refine Below.setCell ?_ (by first | omega | (simp; omega) | (simp; done)) _) | (refine Below.drew ?_) | (refine belowN ?_ _) | (refine Below.trans ?_ (Below.mono ‹Below _ _ _› (by first | omega | (simp; omega) | (simp; done))))))) (hb7.mono (by simp)); have hw7 := bl2 hw6 hx7; have HB7 := Lib.hid (gB6.below hx7 gB6.lt); have HC7 := Lib.hid (gC6.below hx7 gC6.lt); have HM7 := Lib.hid (ownsMap_below hm6 hx7 (by omega)); have HP7 := Lib.hid (hp6.below hx7); have hz7 := hx7.size) |
                    (go_at_call 56; refine (HSS.out _).mono ?_; rintro _ _ ⟨rfl, rfl⟩))
                  go_roundw
                  case rel => exact ⟨k + 1, m * q, _, by omega, by go_num, rfl, mq1, hsm, HQY1.out hsm, hw7, HB7, HC7, HM7, HP7, by omega⟩
                  case measure => simp [intOf]; omega
                · rw [smallB_false hsm] at HSS
                  have HTN : Hid (mixR cs (plL ls) (errsW ls) = ([], 10)) := (by
                    have h1 := comTo_none (HQN1.out hsm) (plL ls).length (by rw [hll]; omega)
                    rw [HT.out, h1] : mixR cs (plL ls) (errsW ls) = ([], 10))
                  go_wp2_with (first |
                    (go_at_call 61; refine (HLk.out _ HWR.out).mono ?_; rintro _ w5 ⟨b, rfl, hab, hb0, hb5⟩; have hw5 := bl2 HWR.out hb5; have hm5 := ownsMap_below HMr.out hb5 hzr; have hmbb : mb < b := Nat.lt_of_lt_of_le hzr hb0; have hp5 := HPP.out w5 b (HPr.out.below hb5) hab hmbb; have hzz5 := hb5.size) |
                    (at_mapUpdate; refine wpList_mapUpdate_own _ rfl _ _ _ 75 rfl 3 22 keyInt Try.underlying75 heldE mb k D rfl hm5 (by unfold maxLen; omega) _ _ (.int .i64 (k : Int)) rfl rfl (Go.Maps.keyOf_int_mk Try.underlying3 wfk) (.held (slB b len)) [] rfl ?_; intro w6 hm6 hg6; have hw6 : Below w.heap.size w w6 := hw5.grown hg6 hw5.size (fun j e => by cases e; omega); have hp6 := hp5.grown hg6 (Nat.le_refl _); have ab6 := hab.grown hg6 (by intro e; cases e; omega); have gB6 := (HBr.out.below hb5 HBr.out.lt).grown hg6 (by intro e; cases e; omega); have gC6 := (HCr.out.below hb5 HCr.out.lt_).grown hg6 (by intro e; cases e; omega); have hz6 := hg6.size) |
                    (at_lookup; refine wpList_lookup_held _ rfl _ _ 75 rfl Try.underlying75 mb (k + 1) _ rfl hm6 _ (.int .i64 (k : Int)) rfl (Go.Maps.keyOf_int_mk Try.underlying3 wfk) (slB b len) (HKA.out _) ?_) |
                    (go_at_call 57; refine (HSM.out _ b ab6).mono ?_; rintro _ _ ⟨rfl, rfl⟩) |
                    (go_at_call 62; refine (HG.out _ _ (by first | omega | (simp; omega) | (simp; done))).mono ?_; rintro _ w7 ⟨rfl, hb7⟩; have hx7 : Below w6.heap.size w6 w7 := Below.trans (by (repeat (first | exact Below.refl _ _ | assumption | (refine Below.alloc ?_ (by first | omega | (simp; omega) | (simp; done)) _) | (refine Below.setCell ?_ (by first | omega | (simp; omega) | (simp; done)) _) | (refine Below.drew ?_) | (refine belowN ?_ _) | (refine Below.trans ?_ (Below.mono ‹Below _ _ _› (by first | omega | (simp; omega) | (simp; done))))))) (hb7.mono (by simp)); have hw7 := bl2 hw6 hx7; have HB7 := Lib.hid (gB6.below hx7 gB6.lt); have HC7 := Lib.hid (gC6.below hx7 gC6.lt); have HM7 := Lib.hid (ownsMap_below hm6 hx7 (by omega)); have HP7 := Lib.hid (hp6.below hx7); have hz7 := hx7.size) |
                    (go_at_call 56; refine (HSS.out _).mono ?_; rintro _ _ ⟨rfl, rfl⟩))
                  go_ret2
                  rw [HTN.out]
                  exact retSlE_nil hw7
            · obtain rfl : k = ls.length := by omega
              have MK := HMK.out
              have hd := (comTo_ok MK ls.length (by rw [hll]; omega) m HCTk.out).2.2
              have HT2 : Hid (mixR cs (plL ls) (errsW ls) = if 1000000000000000 < sumL C * m then ([], 10) else (lowL (mixO C (plL ls) m len (fun _ => true)), 0)) := (by
                have h := HT.out
                rw [hll, HCTk.out] at h
                exact h : mixR cs (plL ls) (errsW ls) = _)
              have HSC := Lib.hid (fun (W : World) (h : Arr W cb C) => sum_arr h rfl LQ.out)
              have HSS := Lib.hid (fun w => small_any (sumL C) m w (by have := LQ.out.pos; omega) (by omega) (by have := LQ.out.le; omega) (by omega))
              have sc1 := LQ.out.pos
              obtain ⟨w0, rfl⟩ : ∃ w0 : World, w0 = wr := ⟨_, rfl⟩
              by_cases hov : 1000000000000000 < sumL C * m
              · have HTN : Hid (mixR cs (plL ls) (errsW ls) = ([], 10)) := (by have h := HT2.out; rw [if_pos hov] at h; exact h : mixR cs (plL ls) (errsW ls) = ([], 10))
                rw [smallB_false (by omega)] at HSS
                clear MK hd hov HT HT2
                obtain ⟨sc, hsc⟩ : ∃ v, v = sumL C := ⟨_, rfl⟩
                rw [← hsc] at HSC HSS
                clear hsc
                go_wp2_with (first | (go_at_call 57; refine (HSC.out _ HCr.out).mono ?_; rintro _ _ ⟨rfl, rfl⟩) | (go_at_call 56; refine (HSS.out _).mono ?_; rintro _ _ ⟨rfl, rfl⟩))
                go_ret2
                rw [HTN.out]
                exact retSlE_nil hwr
              · have HTN : Hid (mixR cs (plL ls) (errsW ls) = (lowL (mixO C (plL ls) m len (fun _ => true)), 0)) := (by have h := HT2.out; rw [if_neg hov] at h; exact h : mixR cs (plL ls) (errsW ls) = _)
                rw [smallB_true (by omega)] at HSS
                obtain ⟨i0, hi0, iz0, iz1, iz2⟩ := info_parts infoInt
                have hcm' : sumL C * m ≤ 1000000000000000 := by omega
                have hn0 : 0 < (plL ls).length := by rw [hll]; exact h0
                have eq0 := MK.eq 0 hn0
                have ok0 := MK.ok 0 hn0
                rw [plL_get ls h0] at eq0 ok0
                obtain ⟨lb, lo, rfl, hlb, lc, -⟩ := (HRL.out.below hwr).at_ h0
                rw [eq0] at lc
                simp only [Nat.add_zero] at lc
                have len4 : len ≤ 4096 := by have := ok0.len; omega
                have gb := HBr.out.cell 0
                simp at gb
                have hkl : (0 : Int) < (ls.length : Int) := by omega
                have HBD := Lib.hid (fun vis j hj => mixO_bd MK hm1 (fun i hi hne => hd i (by rw [hll] at hi; exact hi) hne) hcm' vis (j := j) hj)
                have HTB := Lib.hid (fun j i hj hi => mixT_bd MK hm1 (fun i hi hne => hd i (by rw [hll] at hi; exact hi) hne) hcm' (j := j) (i := i) hj hi)
                have OKO : OkW (mixO C (plL ls) m len (fun _ => true)) := by
                  have e := mixO_sum MK (m := m) (fun i hi hne => hd i (by rw [hll] at hi; exact hi) hne)
                  have p1 := Int.mul_le_mul sc1 hm1 (by omega) (by omega)
                  exact ⟨by rw [mixO_len]; exact len4, mixO_nn MK hm1 _, by rw [e]; omega, by rw [e]; exact hcm'⟩
                have HOKO := Lib.hid OKO
                clear MK hd hov HT HT2 OKO eq0 ok0 hn0
                have HSCM : Hid (sumL C * m ≤ 1000000000000000) := hcm'
                obtain ⟨sc, hsc⟩ : ∃ v, v = sumL C := ⟨_, rfl⟩
                rw [← hsc] at HSC HSS
                clear hsc
                have HCr' := HCr
                go_wp2_with (first | (go_at_call 57; refine (HSC.out _ HCr.out).mono ?_; rintro _ _ ⟨rfl, rfl⟩) | (go_at_call 56; refine (HSS.out _).mono ?_; rintro _ _ ⟨rfl, rfl⟩) |
                  (at_make; refine wpList_make_arr _ rfl _ _ rfl i0 uInts hi0 iz0 iz1 iz2 .i64 .i64 _ _ len rfl rfl rfl rfl (by omega) ?_; intro w8 ha8 hb8))
                have hm8 := ownsMap_below HMr.out hb8 hzr
                obtain ⟨ob, hob⟩ : ∃ v, v = w0.heap.size := ⟨_, rfl⟩
                have hz8 := hb8.size
                have hol : ob < w8.heap.size := by have := ha8.lt_; omega
                have hb8' : Below ob w0 w8 := by rw [hob]; exact hb8
                have hmo : mb < ob := by omega
                have ha8' : Arr w8 ob (List.replicate len 0) := by rw [hob]; exact ha8
                rw [← hob]
                have HOBW := Lib.hid hob
                clear ha8 hb8 hob gb lc hlb
                refine Lib.hid ?_
                go_wp2_with (at_range; refine wpList_range_own _ rfl _ 75 rfl 3 22 keyInt Try.underlying75 heldE mb ls.length D rfl hm8 ?_; intro w9 hrg9 hg9 hs9)
                go_frame
                obtain ⟨rr, hrr⟩ : ∃ r, r = w8.heap.size := ⟨_, rfl⟩
                rw [← hrr] at hrg9 hs9 ⊢
                have hro : ob < rr := by omega
                have hrl9 : rr < w9.heap.size := by omega
                have HB9 := Lib.hid (hb8'.grown hg9 (by have := HOBW.out; omega) (fun j e => by cases e))
                have hA9 : Arr w9 ob (mixO C (plL ls) m len (fun q => !(Go.Maps.has D (.int .i64 (q : Int))))) := by
                  have e := mixO_start (c := C) (ls := plL ls) (m := m) (len := len) (vis := fun q => !(Go.Maps.has D (.int .i64 (q : Int)))) (fun q hq hc => by
                    have := (HPr.out.has (.int .i64 (q : Int))).2 ⟨q, by rw [hll] at hq; exact hq, hc, rfl⟩
                    simp [this])
                  rw [e]
                  exact ha8'.grown hg9 (by simp)
                have HA9 := Lib.hid hA9
                have HRG9 := Lib.hid hrg9
                clear hA9 hrg9 hg9 ha8' hb8' hm8 hrr hs9 hol
                go_loopw [15] (fun _ wr => ∃ left cnt, Hid (wr.ranges Try.prog 3 heldE mb rr ls.length D left cnt) ∧ Hid (Below ob w0 wr) ∧ Hid (Arr wr ob (mixO C (plL ls) m len (fun q => !(left (.int .i64 (q : Int)))))) ∧ Hid (∀ kl, left kl = true → Go.Maps.has D kl = true) ∧ rr < wr.heap.size) (fun _ wr => wr.rangeLeft mb rr)
                case atStart => exact ⟨_, _, HRG9, HB9, HA9, fun kl h => h, hrl9⟩
                case round =>
                  obtain ⟨left, cnt, hrg, HBq, HAq, hlh, hlr⟩ := hrel
                  go_wp2_with (first | (at_next; refine wpList_next_ranges _ rfl _ rfl 3 keyInt heldE (Value.int .i64) (fun v : Value => v) (fun key kl hkey => by obtain ⟨x, h1, _⟩ := Go.Maps.keyOf_int_inv Try.underlying3 hkey; exact ⟨x, h1⟩) (fun v y _ => ⟨v, rfl⟩) mb rr ls.length D left cnt rfl hrg.out ?_ ?_))
                  · intro hc0 hl0
                    have hAe : Arr wr ob (mixO C (plL ls) m len (fun _ => true)) := by
                      have e := mixO_end (c := C) (ls := plL ls) (m := m) (len := len) (vis := fun q => !(left (.int .i64 (q : Int)))) (fun q _ _ => by simp [hl0])
                      rw [← e]; exact HAq.out
                    have HLO := lowest_new (some ⟨ob, 0, none⟩) len (mixO C (plL ls) m len (fun _ => true)) wr HOKO.out hAe.sl
                    rw [mixO_len] at HLO
                    have HLW := Lib.hid HLO
                    have hwq : Below w.heap.size w wr := hwr.trans (HBq.out.mono (by have := HOBW.out; have := hwr.size; omega))
                    clear hl0 hc0 hAe HLO
                    go_wp2_with (go_at_call 61; refine HLW.out.mono ?_; rintro _ wz ⟨bz, rfl, haz, hbz0, hbz⟩)
                    go_ret2
                    rw [HTN.out]
                    exact RetSlE.of_arr haz rfl (bl2 hwq hbz)
                  · intro x cv kl yd yp w1 cnt1 hkey hlk hv hat hrg1 hcl hg1 hs1 hen
                    obtain ⟨x', hx1, rfl, hxw⟩ := Go.Maps.keyOf_int_inv Try.underlying3 hkey
                    cases hx1
                    obtain ⟨i, hi, hci, hie⟩ := (HPr.out.has _).1 (hlh.out _ hlk)
                    simp only [Lit.int.injEq, true_and] at hie
                    subst hie
                    obtain ⟨b, hkd, hab, hmb⟩ := HPr.out.at_ i hi hci
                    have hcv : cv = slB b len := by
                      have h1 := hat (.held (slB b len))
                      rw [hkd] at h1
                      simp only [heldE, Option.some.injEq, Prod.mk.injEq] at hv
                      rw [← hv.1] at h1
                      simpa using h1.symm
                    subst hcv
                    have hOBW := HOBW.out
                    have hqz : ob ≤ wr.heap.size := by omega
                    have HB1 := HBq.out.grown hg1 hqz (fun j e => by cases e; omega)
                    have hA1 := HAq.out.grown hg1 (by intro e; cases e; omega)
                    have hl1 : rr < w1.heap.size := by omega
                    have kC : i < C.length := by have := HCL.out; omega
                    have hC1 : Arr w1 cb C := HCr.out.below HB1 (by have := HCr.out.lt_; omega)
                    have hbo : b < ob := by have := hab.lt_; omega
                    have hab1 : Arr w1 b _ := hab.below HB1 hbo
                    have cc := Arr.at_ hC1 kC
                    have eC := getD_at C kC
                    obtain ⟨x0, x1⟩ := LQ.out.at_ kC
                    have xs := le_sumL LQ.out.nn kC
                    have hiL : i < (plL ls).length := by rw [hll]; exact hi
                    obtain ⟨t1, t2⟩ := HMK.out.t (i := i) hiL
                    have okT := low_ok (HMK.out.ok i hiL)
                    have eqT : (lowL ((plL ls).getD i [])).length = len := by rw [lowL_len]; exact HMK.out.eq i hiL
                    have HSM := Lib.hid (fun (W : World) (h : Arr W b (lowL ((plL ls).getD i []))) => sum_arr h eqT okT)
                    have hvi : (!(left (.int .i64 (i : Int)))) = false := by simp [hlk]
                    have HNX := Lib.hid (fun j hj => mixP_next (c := C) (ls := plL ls) (m := m) (len := len) (vis := fun q => !(left (.int .i64 (q : Int)))) (i := i) (j := j) hj hiL hvi)
                    have HTT := Lib.hid (fun j => mixT_eq (m := m) (ls := plL ls) (j := j) hci)
                    have HTB1 := Lib.hid (fun j hj => HTB.out j i hj hiL)
                    rw [eC] at HTT
                    obtain ⟨ci, hcie⟩ : ∃ v, v = C[i] := ⟨_, rfl⟩
                    rw [← hcie] at cc x0 x1 xs HTT
                    have d0 := Int.ediv_nonneg (show 0 ≤ m by omega) (show 0 ≤ sumL (lowL ((plL ls).getD i [])) by omega)
                    have d1 := Int.ediv_le_self (sumL (lowL ((plL ls).getD i []))) (show 0 ≤ m by omega)
                    have tm0 := Int.mul_nonneg x0 d0
                    have tm1 : ci * (m / sumL (lowL ((plL ls).getD i []))) ≤ 1000000000000000 := by
                      have h1 := Int.mul_le_mul xs d1 d0 (by have := LQ.out.pos; omega)
                      have := HSCM.out
                      omega
                    have eV : IntKind.i64.wrap (ci * IntKind.i64.wrap (m.tdiv (sumL (lowL ((plL ls).getD i []))))) = ci * (m / sumL (lowL ((plL ls).getD i []))) := by
                      rw [Int.tdiv_eq_ediv_of_nonneg (by omega), wrapI (a := m / _) (by omega) (by omega), wrapI (by omega) (by omega)]
                    obtain ⟨T, hT⟩ : ∃ v, v = lowL ((plL ls).getD i []) := ⟨_, rfl⟩
                    rw [← hT] at hab1 eqT HSM HTT t1 t2 d0 d1 tm0 tm1 eV
                    obtain ⟨t, ht⟩ : ∃ v, v = sumL T := ⟨_, rfl⟩
                    rw [← ht] at HSM HTT t1 t2 d0 d1 tm0 tm1 eV
                    have HTN0 : t ≠ 0 := by omega
                    obtain ⟨tm, htm⟩ : ∃ v, v = ci * (m / t) := ⟨_, rfl⟩
                    rw [← htm] at HTT tm0 tm1 eV
                    have hi0 : (0 : Int) ≤ (i : Int) := by omega
                    have hiC : (i : Int) < (C.length : Int) := by omega
                    have HAB := Lib.hid hab; have HTE := Lib.hid hT; have HTL := Lib.hid eqT
                    have HCL2 := Lib.hid hcl; have HLK := Lib.hid hlk
                    have HRGo := hrg
                    clear hkey hv hat hg1 hs1 hkd hab hT eqT ht htm hcie eC xs HTB okT hvi hlk hcl hxw hOBW d0 d1 hC1 hrg hci
                    go_wp2
                    go_region_held (fun W' => W'.cell? ⟨cb, i, none⟩ = some (.int .i64 ci)) (exact cc)
                      ((go_at_call 57; (first | (with_reducible refine (HSM.out _ (Arr.drew hab1)).mono ?_) | (with_reducible refine (HSM.out _ hab1).mono ?_)); rintro _ _ ⟨rfl, rfl⟩))
                    all_goals (
                      refine gen_w (fun W => W.ranges Try.prog 3 heldE mb rr ls.length D (fun z => left z && !z.sameKey (.int .i64 (i : Int))) cnt1 ∧ Below ob w0 W ∧ Arr W ob (mixO C (plL ls) m len (fun q => !(left (.int .i64 (q : Int))))) ∧ rr < W.heap.size) ⟨hrg1, HB1.drew, hA1, hl1⟩ ?_
                      clear hrg1 HB1 hA1 hl1 hab1 cc hen HSM eV
                      rintro W2 ⟨hr2, hb2, ha2, hl2⟩
                      have HR2 := Lib.hid hr2; have HB2 := Lib.hid hb2
                      have HA2 : Hid (Arr W2 ob (mixP C (plL ls) m len (fun q => !(left (.int .i64 (q : Int)))) i 0)) := (by rw [mixP_zero]; exact ha2 : Arr W2 ob _)
                      clear hr2 hb2 ha2
                      obtain ⟨wo, rfl⟩ : ∃ wo : World, wo = wr := ⟨_, rfl⟩
                      go_wp2
                      go_loopw [104] (fun s wq => ∃ j : Nat, j ≤ len ∧ s = .int .i64 j ∧ Hid (wq.ranges Try.prog 3 heldE mb rr ls.length D (fun z => left z && !z.sameKey (.int .i64 (i : Int))) cnt1) ∧ Hid (Below ob w0 wq) ∧ Hid (Arr wq ob (mixP C (plL ls) m len (fun q => !(left (.int .i64 (q : Int)))) i j)) ∧ rr < wq.heap.size) (fun s _ => len - (intOf s).toNat)
                      case atStart => exact ⟨0, by omega, rfl, HR2, HB2, HA2, hl2⟩
                      case round =>
                        obtain ⟨j, hj, rfl, HRq, HBq2, HAq2, hlq⟩ := hrel
                        by_cases hjl : j < len
                        · have hj0 : (0 : Int) ≤ (j : Int) := by omega
                          have hj1 : (j : Int) < (len : Int) := by omega
                          have hjT : j < T.length := by have := HTL.out; omega
                          have hab2 : Arr wr b T := by have h := HAB.out.below HBq2.out hbo; rw [HTE.out]; exact h
                          have cy := hab2.at_ hjT
                          have co := HAq2.out.at_ (j := j) (by rw [mixP_len]; exact hjl)
                          have fo := Blk.free HAq2.out j
                          have hnx := HNX.out j hjl
                          have htt := HTT.out j
                          have htb := HTB1.out j hjl
                          have hbd0 := HBD.out (if j < j then (fun q => !(left (.int .i64 (q : Int))) || q == i) else (fun q => !(left (.int .i64 (q : Int))))) j hjl
                          have hbd1 := HBD.out (if j < j + 1 then (fun q => !(left (.int .i64 (q : Int))) || q == i) else (fun q => !(left (.int .i64 (q : Int))))) j hjl
                          rw [← mixP_get (i := i) hjl] at hbd0
                          rw [← mixP_get (i := i) hjl] at hbd1
                          have hgx : (mixP C (plL ls) m len (fun q => !(left (.int .i64 (q : Int)))) i (j + 1))[j]'(by rw [mixP_len]; exact hjl) = (mixP C (plL ls) m len (fun q => !(left (.int .i64 (q : Int)))) i j)[j]'(by rw [mixP_len]; exact hjl) + mixT C (plL ls) m j i := by
                            simp only [hnx, List.getElem_set_self]
                          rw [hgx] at hbd1
                          rw [getD_at T hjT] at htt
                          rw [htt] at hnx htb hbd1
                          obtain ⟨y, hy⟩ : ∃ v, v = T[j] := ⟨_, rfl⟩
                          rw [← hy] at cy hnx htb hbd1
                          obtain ⟨o, ho⟩ : ∃ v, v = (mixP C (plL ls) m len (fun q => !(left (.int .i64 (q : Int)))) i j)[j]'(by rw [mixP_len]; exact hjl) := ⟨_, rfl⟩
                          rw [← ho] at co hnx hbd0 hbd1
                          obtain ⟨yt0, yt1⟩ := htb
                          obtain ⟨o0, o1⟩ := hbd0
                          obtain ⟨v0, v1⟩ := hbd1
                          have HNX2 := Lib.hid hnx
                          have yb0 : -9223372036854775808 ≤ y * tm := by omega
                          clear hnx htt hgx hy ho hab2
                          go_wp2
                          go_roundw
                          case rel => exact ⟨j + 1, by omega, by go_num, HRq.out.kept (grownBy_setCellA _ ⟨ob, j, none⟩ _) (by simp; omega) (by simp; omega), HBq2.out.setCell (p := ⟨ob, j, none⟩) (Nat.le_refl _) _, (by rw [HNX2.out]; exact HAq2.out.put j _ : Arr _ ob _), by simpa using hlq⟩
                          case measure => simp [intOf]; omega
                        · obtain rfl : j = len := by omega
                          go_wp2
                          go_roundw
                          case rel =>
                            refine ⟨_, _, HRq, HBq2, ?_, fun kl hkl => ?_, hlq⟩
                            · have e := mixP_all (c := C) (ls := plL ls) (m := m) (len := j) (vis := fun q => !(left (.int .i64 (q : Int)))) (i := i)
                              have h := HAq2.out
                              rw [e] at h
                              have e2 : (fun q : Nat => !(left (.int .i64 (q : Int))) || q == i) = (fun q : Nat => !(left (.int .i64 (q : Int)) && !(Lit.int .i64 (q : Int)).sameKey (.int .i64 (i : Int)))) := by
                                funext q
                                have hs : (Lit.int .i64 (q : Int)).sameKey (.int .i64 (i : Int)) = (q == i) := by
                                  by_cases hq : q = i
                                  · subst hq; rw [WideAt.sameKey_self (show WideAt.IsKeyLit (.int .i64 (q : Int)) from trivial)]; simp
                                  · have h1 : (q == i) = false := by simpa using hq
                                    rw [h1, Bool.eq_false_iff]
                                    intro h2
                                    have := WideAt.sameKey_eq h2
                                    simp only [Lit.int.injEq, true_and] at this
                                    omega
                                rw [hs]; cases left (.int .i64 (q : Int)) <;> simp
                              rw [e2] at h
                              exact h
                            · simp only [Bool.and_eq_true] at hkl
                              exact hlh.out kl hkl.1
                          case measure =>
                            rw [HRq.out.left_eq, HRGo.out.left_eq]
                            exact HCL2.out
                      )
      · have hb : (errsW ls != 0) = true := by simpa using hel
        have HT : Hid (mixR cs (plL ls) (errsW ls) = ([], errsW ls)) := (mixR_3 he (by rw [hll]; exact hlen) hel : mixR cs (plL ls) (errsW ls) = _)
        obtain ⟨ev, hev⟩ : ∃ ev, ev = errsW ls := ⟨_, rfl⟩
        rw [← hev] at HCS hb HT
        rw [← hev]
        clear hel hr hrl hev he hlen hll
        go_enter Try.func21, Try.ntmps21
        go_wp2_with (first | (go_at_call 31; refine (HC.out _ (by (repeat (first | exact Below.refl _ _ | assumption | (refine Below.alloc ?_ (by first | omega | (simp; omega) | (simp; done)) _) | (refine Below.setCell ?_ (by first | omega | (simp; omega) | (simp; done)) _) | (refine Below.drew ?_) | (refine belowN ?_ _) | (refine Below.trans ?_ (Below.mono ‹Below _ _ _› (by first | omega | (simp; omega) | (simp; done)))))))).mono ?_; rintro _ _ ⟨rfl, rfl⟩; rw [HE.out]) | (go_at_call 58; refine (HCS.out _ (by (repeat (first | exact Below.refl _ _ | assumption | (refine Below.alloc ?_ (by first | omega | (simp; omega) | (simp; done)) _) | (refine Below.setCell ?_ (by first | omega | (simp; omega) | (simp; done)) _) | (refine Below.drew ?_) | (refine belowN ?_ _) | (refine Below.trans ?_ (Below.mono ‹Below _ _ _› (by first | omega | (simp; omega) | (simp; done)))))))).mono ?_; rintro _ _ ⟨rfl, rfl⟩))
        go_ret2
        rw [HT.out]
        exact retSlE_nil (by (repeat (first | exact Below.refl _ _ | assumption | (refine Below.alloc ?_ (by first | omega | (simp; omega) | (simp; done)) _) | (refine Below.setCell ?_ (by first | omega | (simp; omega) | (simp; done)) _) | (refine Below.drew ?_) | (refine belowN ?_ _) | (refine Below.trans ?_ (Below.mono ‹Below _ _ _› (by first | omega | (simp; omega) | (simp; done)))))))
    · have hne : ((ls.length : Int) != (cs.length : Int)) = true := by simp; omega
      have HT : Hid (mixR cs (plL ls) (errsW ls) = ([], 2)) := (mixR_2 he (by rw [hll]; exact hlen) : mixR cs (plL ls) (errsW ls) = _)
      clear hr hrl he hlen hll
      go_enter Try.func21, Try.ntmps21
      go_wp2_with (go_at_call 31; refine (HC.out _ (by (repeat (first | exact Below.refl _ _ | assumption | (refine Below.alloc ?_ (by first | omega | (simp; omega) | (simp; done)) _) | (refine Below.setCell ?_ (by first | omega | (simp; omega) | (simp; done)) _) | (refine Below.drew ?_) | (refine belowN ?_ _) | (refine Below.trans ?_ (Below.mono ‹Below _ _ _› (by first | omega | (simp; omega) | (simp; done)))))))).mono ?_; rintro _ _ ⟨rfl, rfl⟩; rw [HE.out])
      go_ret2
      rw [HT.out]
      exact retSlE_nil (by (repeat (first | exact Below.refl _ _ | assumption | (refine Below.alloc ?_ (by first | omega | (simp; omega) | (simp; done)) _) | (refine Below.setCell ?_ (by first | omega | (simp; omega) | (simp; done)) _) | (refine Below.drew ?_) | (refine belowN ?_ _) | (refine Below.trans ?_ (Below.mono ‹Below _ _ _› (by first | omega | (simp; omega) | (simp; done)))))))
  · have hb : (errW cs != 0) = true := by simpa using he
    have HT : Hid (mixR cs (plL ls) (errsW ls) = ([], errW cs)) := (mixR_1 he : mixR cs (plL ls) (errsW ls) = _)
    obtain ⟨ev, hev⟩ : ∃ ev, ev = errW cs := ⟨_, rfl⟩
    rw [← hev] at HC hb HT
    clear he hr hrl hev hll
    go_enter Try.func21, Try.ntmps21
    go_wp2_with (go_at_call 31; refine (HC.out _ (by (repeat (first | exact Below.refl _ _ | assumption | (refine Below.alloc ?_ (by first | omega | (simp; omega) | (simp; done)) _) | (refine Below.setCell ?_ (by first | omega | (simp; omega) | (simp; done)) _) | (refine Below.drew ?_) | (refine belowN ?_ _) | (refine Below.trans ?_ (Below.mono ‹Below _ _ _› (by first | omega | (simp; omega) | (simp; done)))))))).mono ?_; rintro _ _ ⟨rfl, rfl⟩)
    go_ret2
    rw [HT.out]
    exact retSlE_nil (by (repeat (first | exact Below.refl _ _ | assumption | (refine Below.alloc ?_ (by first | omega | (simp; omega) | (simp; done)) _) | (refine Below.setCell ?_ (by first | omega | (simp; omega) | (simp; done)) _) | (refine Below.drew ?_) | (refine belowN ?_ _) | (refine Below.trans ?_ (Below.mono ‹Below _ _ _› (by first | omega | (simp; omega) | (simp; done)))))))
end Go.Proofs.Ytmfbiohdmhbkoaa

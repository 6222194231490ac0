/- The walk of the law OddsAllCases. -/
import Derived.Test.YtmfbiohdmhbkoaaHg
import Derived.Test.YtmfbiohdmhbkoaaHe
import Derived.Test.YtmfbiohdmhbkoaaLg
import Derived.Test.YtmfbiohdmhbkoaaHb
import Derived.Test.YtmfbiohdmhbkoaaGz
import Derived.Test.YtmfbiohdmhbkoaaLn
import Derived.Test.YtmfbiohdmhbkoaaQf
namespace Go.Proofs.Ytmfbiohdmhbkoaa
open Go.RowKit

def ArrL (W : World) (q : LL) : Prop := ∃ b, q.a = some ⟨b, 0, none⟩ ∧ Arr W b q.l
theorem own_ne_blk' {W : World} {b e s n k t : Nat} {v : Value} {xs : List Value} {cs : Array Value} (h : W.ownsRow b e s v n xs) (hk : Blk W k cs t) (hne : e ≠ t) : some k ≠ v.ownBlock := by
  rcases h.2 with ⟨rfl, h0⟩ | ⟨g, cap, cur, rfl, hb, hg, hr⟩
  · simp [Value.ownBlock]
  · intro e1
    have e2 : k = g := by simpa [Value.ownBlock] using e1
    subst e2
    have h1 : W.heap[k]? = some _ := hk
    rw [hg] at h1; injection h1 with h1; injection h1 with _ h1 _; exact hne h1
theorem sameB_low {a b : List Int} (ha : OkW a) (hb : OkW b) (h : lowL a = lowL b) : sameB a b = true := by
  have e : sameR a b = (true, 0) := by
    unfold sameR
    rw [if_neg (fun hh => hh (by rw [if_neg (fun hh => hh (errW_zero.2 ha)), errW_zero.2 hb])), h, beq_self_eq_true]
  unfold sameB; rw [e]; rfl
theorem map4_cases {w tl : List Int} (ok : OkW w) : ((mapR w tl 4).2 = 0 → mapR w tl 4 = (mapTo w tl 4 w.length, 0) ∧ tl.length = w.length ∧ ∀ x ∈ tl, 0 ≤ x ∧ x < (4 : Nat)) ∧ ((mapR w tl 4).2 ≠ 0 → (mapR w tl 4).2 = 2) := by
  have e : mapR w tl 4 = if tl.length ≠ w.length ∨ tl.any (outB 4) = true then ([], 2) else (mapTo w tl 4 w.length, 0) := by
    unfold mapR
    rw [if_neg (fun hh => hh (errW_zero.2 ok)), if_neg (by omega)]; rfl
  by_cases hc : tl.length ≠ w.length ∨ tl.any (outB 4) = true
  · rw [e, if_pos hc]
    exact ⟨(fun h => by cases h), fun _ => rfl⟩
  · rw [e, if_neg hc]
    refine ⟨fun _ => ⟨rfl, Classical.byContradiction fun hh => hc (.inl hh), fun x hx => ?_⟩, fun h => absurd rfl h⟩
    have h2 : ¬ tl.any (outB 4) = true := fun hh => hc (.inr hh)
    rw [Bool.not_eq_true, List.any_eq_false] at h2
    have := h2 x hx
    simp [outB] at this
    omega
theorem of1b_any {a : Nat} {l : List Int} {X Y : Int} (W : World) (A' : Option Addr) (k' : Nat) (hl : l.length ≤ 1000000) (h : Sl intCell 1 W W.heap.size A' l) (e : ofR l [(a : Int)] = (X, Y, 0)) :
    Calls Try.prog 34 #[.slice A' l.length k', .slice (some ⟨W.heap.size, 0, none⟩) 1 1] (W.alloc (.cells #[.int .i64 (a : Int)] 3)) (RetC (X, Y, 0) (W.alloc (.cells #[.int .i64 (a : Int)] 3))) := by
  have hb : Below W.heap.size W (W.alloc (.cells #[.int .i64 (a : Int)] 3)) := bla (Below.refl _ _)
  have := of_any A' (some ⟨W.heap.size, 0, none⟩) k' 1 l [(a : Int)] (W.alloc (.cells #[.int .i64 (a : Int)] 3)) (by omega) (by simp) ((h.below hb).more hb.size) (sl_one (Blk.new W _ _) rfl rfl)
  rw [e] at this
  exact this
set_option maxRecDepth 100000 in
set_option maxHeartbeats 32000000 in
theorem lwcases_any (A B A4 : Option Addr) (c d c4 : Nat) (cs : List Int) (ls : List LL) (tl : List Int) (p : Nat) (w : World) (hp : p < 256) (hz : A = none → c = 0) (hz2 : ∀ x ∈ ls, x.a = none → x.c = 0) (hz4 : A4 = none → c4 = 0)
    (hr : Sl intCell 1 w w.heap.size A cs) (hrl : Lists w w.heap.size B ls) (hr4 : Sl intCell 1 w w.heap.size A4 tl) :
    Calls Try.prog 14 #[.slice A cs.length c, .slice B ls.length d, .agg #[.int .u8 p, .slice A4 tl.length c4]] w fun e w' => e = .returned (.bool true) ∧ Below w.heap.size w w' := by
  obtain ⟨i0, hi0, iz0, iz1, iz2⟩ := info_parts infoInt
  obtain ⟨i1, hi1, iy0, iy1, iy2⟩ := info_parts infoInts
  have HR := Lib.hid hr; have HRL := Lib.hid hrl; have HZ2 := Lib.hid hz2; have HR4 := Lib.hid hr4; have HZ := Lib.hid hz; have HZ4 := Lib.hid hz4
  clear hr hrl hz2 hr4 hz hz4
  by_cases c1 : 6 < cs.length
  · have d1 : decide ((6 : Int) < (cs.length : Int)) = true := by simp; omega
    go_enter Try.func14, Try.ntmps14
    go_wp2_with (go_at_call 16; refine (known_any _).mono ?_; rintro _ W1 ⟨rfl, hb1⟩)
    go_ret
    exact ⟨rfl, bl3 (Below.refl _ _) hb1⟩
  · have d1 : decide ((6 : Int) < (cs.length : Int)) = false := by simp; omega
    by_cases c2 : 6 < ls.length
    · have d2 : decide ((6 : Int) < (ls.length : Int)) = true := by simp; omega
      go_enter Try.func14, Try.ntmps14
      go_wp2_with (go_at_call 16; refine (known_any _).mono ?_; rintro _ W1 ⟨rfl, hb1⟩)
      go_ret
      exact ⟨rfl, bl3 (Below.refl _ _) hb1⟩
    · have d2 : decide ((6 : Int) < (ls.length : Int)) = false := by simp; omega
      by_cases c3 : 12 < tl.length
      · have d3 : decide ((12 : Int) < (tl.length : Int)) = true := by simp; omega
        go_enter Try.func14, Try.ntmps14
        go_wp2_with (go_at_call 16; refine (known_any _).mono ?_; rintro _ W1 ⟨rfl, hb1⟩)
        go_ret
        exact ⟨rfl, bl3 (Below.refl _ _) hb1⟩
      · have d3 : decide ((12 : Int) < (tl.length : Int)) = false := by simp; omega
        have hcl : cs.length ≤ 6 := by omega
        have hll : ls.length ≤ 6 := by omega
        have htl : tl.length ≤ 12 := by omega
        clear c1 c2 c3
        go_enter Try.func14, Try.ntmps14
        go_upto_region 3 with fail
        refine gen_w (fun W => Below w.heap.size w W ∧ Blk W w.heap.size #[.int .u8 p, .slice A4 tl.length c4] 70) ⟨by (repeat (first | exact Below.refl _ _ | assumption | (refine Below.alloc ?_ (by first | omega | (simp; omega) | (simp; done)) _) | (refine Below.setCell ?_ (by first | omega | (simp; omega) | (simp; done)) _) | (refine Below.drew ?_) | (refine belowN ?_ _) | (refine Below.trans ?_ (Below.mono ‹Below _ _ _› (by first | omega | (simp; omega) | (simp; done)))))), Blk.at_ rfl⟩ ?_
        rintro V0 ⟨hw0, gx⟩
        have HRL0 := Lib.hid ((HRL.out.below hw0).more hw0.size)
        go_wp2
        refine gen_w (fun W => Below V0.heap.size V0 W ∧ W.ownsRow V0.heap.size 22 1 (.slice (some ⟨V0.heap.size, 0, none⟩) 0 0) 0 []) ⟨by (repeat (first | exact Below.refl _ _ | assumption | (refine Below.alloc ?_ (by first | omega | (simp; omega) | (simp; done)) _) | (refine Below.setCell ?_ (by first | omega | (simp; omega) | (simp; done)) _) | (refine Below.drew ?_) | (refine belowN ?_ _) | (refine Below.trans ?_ (Below.mono ‹Below _ _ _› (by first | omega | (simp; omega) | (simp; done)))))), by simpa using World.ownsRow_made (e := 22) (size := 1) V0 #[] 0 (base := V0.heap.size) (by simp) (by simp) (by simp)⟩ ?_
        rintro w0 ⟨hbw, hown0⟩
        have HO0 := Lib.hid hown0
        clear hown0
        go_loopw [7, 8] (fun v i wr => ∃ (j : Nat) (l : List LL), j ≤ ls.length ∧ i = .int .i64 j ∧ Hid (l.length = j) ∧ Hid (wr.ownsRow V0.heap.size 22 1 v l.length (flat LL.cells l)) ∧ Hid (∀ r ∈ l, RowL wr r) ∧ Hid (l.map LL.l = (ls.take j).map LL.l) ∧ Hid (∀ x ∈ ls.take j, x.l.length ≤ 12) ∧ Hid (Below V0.heap.size V0 wr)) (fun _ i _ => ls.length - (intOf i).toNat)
        case atStart => exact ⟨0, [], by omega, rfl, rfl, HO0, (fun r hr => by cases hr), rfl, (fun x hx => by simp at hx), hbw⟩
        case round =>
          clear HO0 hbw
          obtain ⟨j, l, hj, rfl, hlj, hown, hrows, hpl, hlo, hbr⟩ := hrel
          by_cases hlt : j < ls.length
          · obtain ⟨ab, ao, hB, hblk, hlc, hlr⟩ := (HRL0.out.below hbr.out).at_ hlt
            subst hB
            have hsz := hbr.out.size
            have hn0 := HZ2.out _ (List.getElem_mem hlt)
            have HTK := Lib.hid (List.take_succ_eq_append_getElem hlt)
            obtain ⟨x, hx⟩ : ∃ t, t = ls[j] := ⟨_, rfl⟩
            rw [← hx] at hlc hlr hn0 HTK
            have hj0 : (0 : Int) ≤ (j : Int) := by omega
            have hj1 : (j : Int) < (ls.length : Int) := by omega
            by_cases hlg : 12 < x.l.length
            · have dl : decide ((12 : Int) < (x.l.length : Int)) = true := by simp; omega
              clear hlg hx
              go_wp2_with (go_at_call 16; refine (known_any _).mono ?_; rintro _ W1 ⟨rfl, hb1⟩)
              go_ret
              exact ⟨rfl, bl2 (bl2 hw0 hbr.out) hb1⟩
            · have dl : decide ((12 : Int) < (x.l.length : Int)) = false := by simp; omega
              have hxl : x.l.length ≤ 12 := by omega
              have HOW0 := Lib.hid (own0_any x.a x.c x.l wr (by omega) hn0 (by rw [flat_int]; intro u hu; obtain ⟨y, _, rfl⟩ := List.mem_map.1 hu; rfl) (hlr.more hsz))
              clear hlg hx hlr hn0
              go_wp2_with (go_at_call 18; refine HOW0.out.mono ?_; rintro _ W2 ⟨v1, rfl, hown1, hb5⟩; refine Hid.out ?_)
              obtain ⟨A1, k1, hv1⟩ : ∃ A c, v1 = .slice A x.l.length c := (by obtain ⟨A, c, h, _⟩ := Sl.of_own hown1; exact ⟨A, c, h⟩)
              subst hv1
              have p2 : RowL W2 ⟨A1, k1, x.l⟩ := row_zero hown1
              have HP2 := Lib.hid p2
              have HOW := Lib.hid (row_below' hown.out hb5)
              have hol := hlj.out
              have HC5 : Hid (∀ (i : Nat) (u : Value), [Value.slice A1 x.l.length k1][i]? = some u → (W2.alloc (.cells #[.slice A1 x.l.length k1] 22)).cell? ((⟨W2.heap.size, 0, none⟩ : Addr).add i) = some u) := (fun i u hu => by
                rw [Go.WideShapes.add_plain, Nat.zero_add, (Blk.new W2 _ _).cell i, ← hu]; simp)
              have hz5 := hb5.size
              clear hown1 p2
              refine Lib.hid ?_
              go_wp2_with (at_builtin; refine wpList_append_own _ rfl _ _ 31 rfl V0.heap.size 22 i1 (.slice none 0 0) 1 24 uIntss hi1 iy0 iy1 iy2 rfl (by decide) _ _ _ rfl (HOW.out.alloc _) ⟨W2.heap.size, 0, none⟩ 1 1 [.slice A1 x.l.length k1] rfl rfl HC5.out (by simp [Value.oneCell']) (by unfold maxLen; omega) (by omega) (by simp; omega) ?_; intro v' w5 hown5 hgrow _)
              have hb45 : Below V0.heap.size wr w5 := ((hb5.mono (by omega)).alloc (by omega) _).grown hgrow (by simp; omega) (fun g hg => (hown.out.lt g hg).1)
              go_wp2
              go_roundw
              case rel =>
                refine ⟨j + 1, l ++ [⟨A1, k1, x.l⟩], by omega, by go_num, (by show _ = _; simp [hol]), (by show World.ownsRow _ _ _ _ _ _ _; simpa [flat, LL.cells, LL.val] using hown5), ?_, ?_, ?_, hbr.out.trans hb45⟩
                · show ∀ r ∈ _, _
                  have hA : ∀ q : LL, RowL (W2.alloc (.cells #[.slice A1 x.l.length k1] 22)) q → RowL w5 q := fun q hq => World.ownsRow.kept hq hgrow (ownsRow_apart' hq (HOW.out.alloc (.cells #[.slice A1 x.l.length k1] 22)) (by decide))
                  intro q hq
                  rcases List.mem_append.1 hq with hq | hq
                  · exact hA q (row_below' (row_below' (hrows.out q hq) hb5) ((Below.refl _ _).alloc (Nat.le_refl _) _))
                  · obtain rfl : q = _ := by simpa using hq
                    exact hA _ (row_below' HP2.out ((Below.refl _ _).alloc (Nat.le_refl _) _))
                · show _ = _
                  rw [HTK.out, List.map_append, List.map_append, hpl.out]; rfl
                · show ∀ y ∈ _, _
                  intro y hy
                  rw [HTK.out] at hy
                  rcases List.mem_append.1 hy with h | h
                  · exact hlo.out y h
                  · rw [List.mem_singleton.1 h]; exact hxl
              case measure => simp [intOf]; omega
          · obtain rfl : j = ls.length := by omega
            obtain ⟨B1, d1', hv, hs⟩ := Sl.of_own hown.out
            subst hv
            have hlong : ∀ x ∈ ls, x.l.length ≤ 12 := by
              have h := hlo.out
              rw [List.take_length] at h
              exact h
            have hpl' : l.map LL.l = ls.map LL.l := by have h := hpl.out; rw [List.take_length] at h; exact h
            have hLen := hlj.out
            have hLong : ∀ x ∈ l, x.l.length ≤ 4200 := fun x hx => by
              have h1 : x.l ∈ ls.map LL.l := by rw [← hpl']; exact List.mem_map.2 ⟨x, hx, rfl⟩
              obtain ⟨y, hy, e⟩ := List.mem_map.1 h1
              rw [← e]; have := hlong y hy; omega
            have hLists : Lists wr wr.heap.size B1 l := ⟨hs, fun x hx => (hrows.out x hx).sl⟩
            have eP : plL l = plL ls := hpl'
            have eE : errsW l = errsW ls := errsW_cong hpl'
            obtain ⟨⟨G, er⟩, hL⟩ : ∃ x, mixR cs (plL ls) (errsW ls) = x := ⟨_, rfl⟩
            have HM := Lib.hid hL
            have hbr' := bl2 hw0 hbr.out
            have HMX : Hid (∀ W X x, Sl intCell 1 W W.heap.size X cs → Below wr.heap.size wr W → Calls Try.prog 21 #[.slice X cs.length x, .slice B1 l.length d1'] W (RetSlE G er W)) := (fun W X x h1 hW => by
              have h := mix_any X B1 x d1' cs l W (by omega) (by omega) (fun x hx => by have := hLong x hx; omega) h1 ((hLists.below hW).more hW.size)
              rw [eP, eE, hL] at h; exact h : ∀ W X x, _)
            have HOC := Lib.hid (fun W (h : Below w.heap.size w W) => own_any A c cs W (by omega) HZ.out ((HR.out.below h).more h.size))
            have HO4 := Lib.hid (fun W (h : Below w.heap.size w W) => own_any A4 c4 tl W (by omega) HZ4.out ((HR4.out.below h).more h.size))
            have gx1 := gx.below hbr.out gx.lt
            have HLO := Lib.hid hlong
            have hl1 : l.length ≤ 6 := by omega
            clear hlong hpl' hLong hLists eP eE hs hown hrows hpl hlo hlj hLen HRL0 hbr gx hw0
            go_wp2_with (first | (go_at_call 18; (with_reducible refine (HOC.out _ hbr').mono ?_); rintro _ W1 ⟨A1, c1, rfl, hs1, -, hb1⟩) | (go_at_call 21; (with_reducible refine (HMX.out _ _ _ hs1 hb1).mono ?_); rintro _ W2 ⟨A2, c2, rfl, hs2, hz2, hb2⟩; refine Hid.out ?_))
            have hx2 := bl2 hb1 hb2
            have hw2 := bl2 hbr' hx2
            have gx2 := gx1.below hx2 gx1.lt
            have HG2 := Lib.hid hs2
            have HZG := Lib.hid hz2
            clear hs1 hs2 hb1 hb2 hx2 HMX hbr' gx1 hz2
            by_cases her : er = 0
            · subst her
              refine Lib.hid ?_
              obtain ⟨m, HX, hmx⟩ := mixd_of (cs := cs) (L := plL ls) (el := errsW ls) (by rw [hL]) (fun h0 i hi => by
                have hi' : i < ls.length := by rw [← plL_len]; exact hi
                rw [plL_get ls hi']
                exact errW_zero.1 (errsW_all h0 _ (List.getElem_mem hi')))
              rw [hL] at hmx
              injection hmx with hG _
              have hn0 := HX.len_pos
              have hn0' : 0 < ls.length := by rw [← plL_len]; exact hn0
              have hlc : ls.length = cs.length := by have := HX.ll; rwa [plL_len] at this
              obtain ⟨hGl, hGp⟩ := HX.l_len
              have hn12 : ((plL ls).getD 0 []).length ≤ 12 := by rw [plL_get ls hn0']; exact HLO.out _ (List.getElem_mem hn0')
              rw [← hG] at hGl
              have hMp := HX.pos
              have HXX := Lib.hid HX
              have HGG := Lib.hid hG
              have HGL := Lib.hid hGl
              have HLC := Lib.hid hlc
              obtain ⟨k, hk⟩ := Int.eq_ofNat_of_zero_le (Int.emod_nonneg (p : Int) (show (G.length : Int) ≠ 0 by omega))
              have hkl : k < G.length := by have := Int.emod_lt_of_pos (p : Int) (show 0 < (G.length : Int) by omega); omega
              have hG12 : G.length ≤ 12 := by omega
              have hG0 : 0 < G.length := by omega
              have e0 : ((G.length : Int) == 0) = false := by
                rw [Bool.eq_false_iff]; intro h; simp at h; rw [h] at hG0; simp at hG0
              have e1 : ((ls.length : Int) != (cs.length : Int)) = false := by rw [hlc]; simp
              have t0 : (p : Int).tmod (G.length : Int) = (k : Int) := by rw [Int.tmod_eq_emod_of_nonneg (by omega)]; exact hk
              have t1 : (p : Int) % (G.length : Int) = (k : Int) := hk
              have HKN : Hid (k < ((plL ls).getD 0 []).length) := (by rw [← hGl]; exact hkl : k < ((plL ls).getD 0 []).length)
              have hlc1 : ls.length ≤ cs.length ∧ cs.length ≤ ls.length := by omega
              obtain ⟨hlc2, hlc3⟩ := hlc1
              have s0 := gx2.cell 0
              simp at s0
              clear HX hG hGl hGp hlc hk hn12 hL HM hn0 hn0'
              go_upto_region 16 with fail
              clear s0 t0 t1 e0 e1
              go_wp2
              refine gen_w (fun W => Blk W W2.heap.size #[.int .i64 0, .int .i64 1] 51 ∧ Below W2.heap.size W2 W) ⟨Blk.at_ rfl, by (repeat (first | exact Below.refl _ _ | assumption | (refine Below.alloc ?_ (by first | omega | (simp; omega) | (simp; done)) _) | (refine Below.setCell ?_ (by first | omega | (simp; omega) | (simp; done)) _) | (refine Below.drew ?_) | (refine belowN ?_ _) | (refine Below.trans ?_ (Below.mono ‹Below _ _ _› (by first | omega | (simp; omega) | (simp; done))))))⟩ ?_
              rintro W0 ⟨gs0, hbW⟩
              have HS0 : Hid (OkC ⟨0, 1⟩ ∧ Has 0 1 (caseV cs (plL ls) m k 0) (sumL (lowL cs) * m)) := (⟨⟨by decide, by decide, by decide, by decide, by decide⟩, by simp [Has, caseV, sumV]⟩ : OkC ⟨0, 1⟩ ∧ Has 0 1 (caseV cs (plL ls) m k 0) (sumL (lowL cs) * m))
              go_loopw [13, 14, 15, 16, 17, 18, 19] (fun i _ _ _ _ _ _ wr => ∃ (j : Nat) (s1 s2 : Int), j ≤ cs.length ∧ i = .int .i64 j ∧ Blk wr W2.heap.size #[.int .i64 s1, .int .i64 s2] 51 ∧ Hid (OkC ⟨s1, s2⟩ ∧ Has s1 s2 (caseV cs (plL ls) m k j) (sumL (lowL cs) * m)) ∧ Hid (Below W2.heap.size W2 wr)) (fun i _ _ _ _ _ _ _ => cs.length - (intOf i).toNat)
              case atStart => exact ⟨0, 0, 1, by omega, rfl, gs0, HS0, hbW⟩
              case round =>
                clear gs0 HS0 hbW
                obtain ⟨j, s1, s2, hj, rfl, gs, HS, HB⟩ := hrel
                by_cases hjc : j < cs.length
                · have hjl : j < ls.length := by omega
                  have hwr := bl2 hw2 HB.out
                  obtain ⟨ab, ao, hBB, hblk, hlc', hlr⟩ := (HRL.out.below hwr).at_ hjl
                  subst hBB
                  have hzx := HZ2.out _ (List.getElem_mem hjl)
                  have hjP : j < (plL ls).length := by rw [plL_len]; exact hjl
                  have ePl := plL_get ls hjl
                  obtain ⟨x, hx⟩ : ∃ t, t = ls[j] := ⟨_, rfl⟩
                  rw [← hx] at hlc' hlr hzx ePl
                  have hxG : x.l.length = G.length := by rw [HGL.out, ← ePl]; exact HXX.out.mo.eq j hjP
                  have e2 : ((x.l.length : Int) != (G.length : Int)) = false := by rw [hxG]; simp
                  have hx12 : x.l.length ≤ 12 := by omega
                  have okx : OkW x.l := by rw [← ePl]; exact HXX.out.mo.ok j hjP
                  have hz := gs.lt
                  obtain ⟨ep, op, hP⟩ := of_low HXX.out.ok hjc
                  obtain ⟨eq, oq, hQ⟩ := of_low okx (k := k) (by rw [hxG]; exact hkl)
                  obtain ⟨⟨p1, p2, pe⟩, hP'⟩ : ∃ y, ofR cs [(j : Int)] = y := ⟨_, rfl⟩
                  obtain ⟨⟨q1, q2, qe⟩, hQ'⟩ : ∃ y, ofR x.l [(k : Int)] = y := ⟨_, rfl⟩
                  rw [hP'] at ep op hP
                  rw [hQ'] at eq oq hQ
                  simp only at ep eq op oq hP hQ
                  subst ep; subst eq
                  rw [← ePl] at hQ
                  have hre := both_cases op oq
                  have hcb := case_both HXX.out hjP (k := k) op oq hP hQ
                  obtain ⟨⟨r1, r2, re⟩, hR'⟩ : ∃ y, bothR ⟨p1, p2⟩ ⟨q1, q2⟩ = y := ⟨_, rfl⟩
                  rw [hR'] at hre hcb
                  simp only at hre hcb
                  have HPC := Lib.hid (fun W A' k' (h : Sl intCell 1 W W.heap.size A' cs) => of1b_any (a := j) W A' k' (by omega) h hP')
                  have HQC := Lib.hid (fun W A' k' (h : Sl intCell 1 W W.heap.size A' x.l) => of1b_any (a := k) W A' k' (by omega) h hQ')
                  have HBO : Hid (∀ W, Calls Try.prog 42 #[.agg #[.int .i64 p1, .int .i64 p2], .agg #[.int .i64 q1, .int .i64 q2]] W (RetC (r1, r2, re) W)) := (fun W => by
                    have h := both_any ⟨p1, p2⟩ ⟨q1, q2⟩ W; rw [hR'] at h; exact h : ∀ W, _)
                  have HCB := Lib.hid hcb
                  have HLR := Lib.hid (fun W (h : Below wr.heap.size wr W) => own_any x.a x.c x.l W (by omega) hzx (((hlr.more hwr.size).below h).more h.size))
                  have hj0 : (0 : Int) ≤ (j : Int) := by omega
                  have hj1 : (j : Int) < (ls.length : Int) := by omega
                  have HPL := Lib.hid ePl
                  clear hx ePl hxG okx hlr hzx op hP oq hQ hP' hQ' hR' hcb hjP
                  go_upto_region 23 with (first | (go_at_call 18; (with_reducible refine (HOC.out _ hwr).mono ?_); rintro _ X1 ⟨F1, f1, rfl, hs1, -, hb1⟩) | (go_at_call 34; (with_reducible refine (HPC.out _ _ _ hs1).mono ?_); rintro _ X2 ⟨rfl, hb2⟩))
                  have hx2 := bl3 hb1 hb2
                  obtain ⟨B14, hB14⟩ : ∃ B, B = X2.heap.size := ⟨_, rfl⟩
                  have gp : Blk (X2.alloc (.cells #[.int .i64 p1, .int .i64 p2] 51)) B14 #[.int .i64 p1, .int .i64 p2] 51 := Blk.at_ hB14
                  refine gen_w (fun W => Below wr.heap.size wr W ∧ Blk W B14 #[.int .i64 p1, .int .i64 p2] 51) ⟨bla hx2, gp⟩ ?_
                  rw [← hB14]
                  clear gp hx2 hb1 hb2 hs1 hB14 HPC
                  rintro V1 ⟨hV1, gp⟩
                  have hwV1 := bl2 hwr hV1
                  have hlc1 : V1.cell? ⟨ab, ao + j, none⟩ = some (.slice x.a x.l.length x.c) := (hV1.cell (p := ⟨ab, ao + j, none⟩) (by show ab < wr.heap.size; have := hwr.size; omega)).trans hlc'
                  clear hlc'
                  go_upto_region 24 with (first | (go_at_call 18; (with_reducible refine (HLR.out _ hV1).mono ?_); rintro _ X1 ⟨F1, f1, rfl, hs1, -, hb1⟩) | (go_at_call 34; (with_reducible refine (HQC.out _ _ _ hs1).mono ?_); rintro _ X2 ⟨rfl, hb2⟩))
                  have hx2 := bl3 hb1 hb2
                  obtain ⟨B16, hB16⟩ : ∃ B, B = X2.heap.size := ⟨_, rfl⟩
                  have gq : Blk (X2.alloc (.cells #[.int .i64 q1, .int .i64 q2] 51)) B16 #[.int .i64 q1, .int .i64 q2] 51 := Blk.at_ hB16
                  have gp2 := (gp.below hx2 gp.lt).alloc (.cells #[.int .i64 q1, .int .i64 q2] 51)
                  refine gen_w (fun W => Below wr.heap.size wr W ∧ Blk W B14 #[.int .i64 p1, .int .i64 p2] 51 ∧ Blk W B16 #[.int .i64 q1, .int .i64 q2] 51) ⟨bla (bl2 hV1 hx2), gp2, gq⟩ ?_
                  rw [← hB16]
                  clear gp gp2 gq hx2 hb1 hb2 hs1 hB16 HQC hV1 hlc1 hwV1 HLR
                  rintro V2 ⟨hV2, gp, gq⟩
                  have c0 := gp.cell 0; have c1' := gp.cell 1; have c2' := gq.cell 0; have c3' := gq.cell 1
                  simp at c0 c1' c2' c3'
                  rcases hre with rfl | rfl
                  · obtain ⟨orr, hr⟩ := HCB.out rfl
                    have hle := caseV_le HXX.out HKN.out (j := j + 1) (by rw [plL_len]; omega)
                    rw [caseV_succ] at hle
                    have hec := either_cases HS.out.1 orr HS.out.2 hr hMp hle
                    have had := Has.add (a := ⟨s1, s2⟩) (b := ⟨r1, r2⟩) HS.out.2 hr hMp
                    rw [← caseV_succ] at had
                    have hok := either_ok (a := ⟨s1, s2⟩) (b := ⟨r1, r2⟩)
                    obtain ⟨⟨n1, n2, ne⟩, hN⟩ : ∃ y, eitherR ⟨s1, s2⟩ ⟨r1, r2⟩ = y := ⟨_, rfl⟩
                    rw [hN] at hec had hok
                    simp only at hec had hok
                    have HEI : Hid (∀ W, Calls Try.prog 44 #[.agg #[.int .i64 s1, .int .i64 s2], .agg #[.int .i64 r1, .int .i64 r2]] W (RetC (n1, n2, ne) W)) := (fun W => by
                      have h := either_any ⟨s1, s2⟩ ⟨r1, r2⟩ W; rw [hN] at h; exact h : ∀ W, _)
                    have HNX : Hid (ne = 0 → OkC ⟨n1, n2⟩ ∧ Has n1 n2 (caseV cs (plL ls) m k (j + 1)) (sumL (lowL cs) * m)) := (fun h => ⟨(hok h).2.2.1, had h⟩ : ne = 0 → _)
                    have hgs2 := gs.below hV2 gs.lt
                    have hwV2 := bl2 hwr hV2
                    clear hle had hok hN orr hr HCB HS
                    rcases hec with rfl | rfl
                    · have HNY := Lib.hid (HNX.out rfl)
                      clear HNX
                      have HBV : Hid (Below W2.heap.size W2 V2) := (bl2 HB.out hV2 : Below W2.heap.size W2 V2)
                      go_wp2_with (first | (go_at_call 42; (with_reducible refine (HBO.out _).mono ?_); rintro _ V3 ⟨rfl, hb3⟩; have gs3 := hgs2.below hb3 hgs2.lt; have g0 := gs3.cell 0; have g1 := gs3.cell 1; have g2 := gs3.free 0; have g3 := gs3.free 1; have gl := gs3.lt; simp at g0 g1) | (go_at_call 44; (with_reducible refine (HEI.out _).mono ?_); rintro _ V4 ⟨rfl, hb4⟩; have gs4 := (gs3.alloc _).below hb4 (gs3.alloc _).lt; have g0 := gs4.cell 0; have g1 := gs4.cell 1; have g2 := gs4.free 0; have g3 := gs4.free 1; have gl := gs4.lt; simp at g0 g1))
                      have hx4 : Below W2.heap.size W2 V4 := bl3 (bl2 HBV.out hb3) hb4
                      go_roundw
                      case rel => exact ⟨j + 1, n1, n2, by omega, by go_num, gs4.set2 _ _, HNY, below_set2 hx4 (Nat.le_refl _) _ _⟩
                      case measure => simp [intOf]; omega
                    · clear HNX
                      have HBV : Hid (Below W2.heap.size W2 V2) := (bl2 HB.out hV2 : Below W2.heap.size W2 V2)
                      go_wp2_with (first | (go_at_call 42; (with_reducible refine (HBO.out _).mono ?_); rintro _ V3 ⟨rfl, hb3⟩; have gs3 := hgs2.below hb3 hgs2.lt; have hwV3 := bl2 hwV2 hb3; have g0 := gs3.cell 0; have g1 := gs3.cell 1; have g2 := gs3.free 0; have g3 := gs3.free 1; have gl := gs3.lt; simp at g0 g1) | (go_at_call 44; (with_reducible refine (HEI.out _).mono ?_); rintro _ V4 ⟨rfl, hb4⟩; have gs4 := (gs3.alloc _).below hb4 (gs3.alloc _).lt; have hwV4 := bl3 hwV3 hb4; have g0 := gs4.cell 0; have g1 := gs4.cell 1; have g2 := gs4.free 0; have g3 := gs4.free 1; have gl := gs4.lt; simp at g0 g1) | (go_at_call 16; refine (known_any _).mono ?_; rintro _ V5 ⟨rfl, hb5⟩))
                      go_ret
                      exact ⟨rfl, bl2 (below_set2 hwV4 (by have := hw2.size; omega) _ _) hb5⟩
                  · clear HCB HS
                    have hwV2 := bl2 hwr hV2
                    go_wp2_with (first | (go_at_call 42; (with_reducible refine (HBO.out _).mono ?_); rintro _ V3 ⟨rfl, hb3⟩; have hwV3 := bl2 hwV2 hb3) | (go_at_call 16; refine (known_any _).mono ?_; rintro _ V5 ⟨rfl, hb5⟩))
                    go_ret
                    exact ⟨rfl, bl3 hwV3 hb5⟩
                · obtain rfl : j = cs.length := by omega
                  have hwr := bl2 hw2 HB.out
                  have hcf := case_final HXX.out HKN.out HS.out.1 (by rw [plL_len, HLC.out]; exact HS.out.2)
                  rw [← HGG.out] at hcf
                  have HOG := Lib.hid (fun W A' k' (h : Sl intCell 1 W W.heap.size A' G) => of1b_any (a := k) W A' k' (by omega) h hcf)
                  have HGr := Lib.hid ((HG2.out.below HB.out).more HB.out.size)
                  have HOWG := Lib.hid (fun W (h : Below W2.heap.size W2 W) => own_any A2 c2 G W (by omega) HZG.out ((HG2.out.below h).more h.size))
                  have hz := gs.lt
                  clear hcf
                  go_upto_region 37 with (first | (go_at_call 18; (with_reducible refine (HOWG.out _ HB.out).mono ?_); rintro _ X1 ⟨F1, f1, rfl, hs1, -, hb1⟩) | (go_at_call 34; (with_reducible refine (HOG.out _ _ _ hs1).mono ?_); rintro _ X2 ⟨rfl, hb2⟩; have hx2 := bl3 hb1 hb2; have gs2 := gs.below hx2 gs.lt; have gl := gs2.lt; have g0 := gs2.cell 0; have g1 := gs2.cell 1; simp at g0 g1))
                  refine gen_w (fun W => Below W2.heap.size W2 W) (bla (bl2 HB.out hx2)) ?_
                  clear hx2 gs2 gl g0 g1 hb1 hb2 hs1 HOG HGr gs HS hwr hz HB
                  rintro V3 hV3
                  have hwV3 := bl2 hw2 hV3
                  have gx3 := gx2.below hV3 gx2.lt
                  have HRL3 := Lib.hid ((HRL.out.below hwV3).more hwV3.size)
                  go_wp2
                  refine gen_w (fun W => Below V3.heap.size V3 W ∧ W.ownsRow V3.heap.size 22 1 (.slice (some ⟨V3.heap.size, 0, none⟩) 0 0) 0 []) ⟨by (repeat (first | exact Below.refl _ _ | assumption | (refine Below.alloc ?_ (by first | omega | (simp; omega) | (simp; done)) _) | (refine Below.setCell ?_ (by first | omega | (simp; omega) | (simp; done)) _) | (refine Below.drew ?_) | (refine belowN ?_ _) | (refine Below.trans ?_ (Below.mono ‹Below _ _ _› (by first | omega | (simp; omega) | (simp; done)))))), by simpa using World.ownsRow_made (e := 22) (size := 1) V3 #[] 0 (base := V3.heap.size) (by simp) (by simp) (by simp)⟩ ?_
                  rintro w3 ⟨hbw3, hown3⟩
                  have HO3 := Lib.hid hown3
                  clear hown3
                  go_loopw [22, 23, 24, 25] (fun v i _ _ wr => ∃ (j : Nat) (mm : List LL), j ≤ ls.length ∧ i = .int .i64 j ∧ Hid (mm.length = j) ∧ Hid (wr.ownsRow V3.heap.size 22 1 v mm.length (flat LL.cells mm)) ∧ Hid (∀ r ∈ mm, ArrL wr r) ∧ Hid (mm.map LL.l = (ls.take j).map (fun x => mapTo x.l tl 4 x.l.length)) ∧ Hid (0 < j → tl.length = G.length ∧ ∀ x ∈ tl, 0 ≤ x ∧ x < (4 : Nat)) ∧ Hid (Below V3.heap.size V3 wr)) (fun _ i _ _ _ => ls.length - (intOf i).toNat)
                  case atStart => exact ⟨0, [], by omega, rfl, rfl, HO3, (fun r hr => by cases hr), rfl, (fun h => absurd h (by decide)), hbw3⟩
                  case round =>
                    clear HO3 hbw3
                    obtain ⟨j, mm, hj, rfl, hlj, hown, hrows, hpl, hco, hbr⟩ := hrel
                    by_cases hlt : j < ls.length
                    · have hb3 := hbr.out
                      have hwr := bl2 hwV3 hb3
                      obtain ⟨ab, ao, hBB, hblk, hlc', hlr⟩ := (HRL.out.below hwr).at_ hlt
                      subst hBB
                      have gxr := gx3.below hb3 gx3.lt
                      have hzx := HZ2.out _ (List.getElem_mem hlt)
                      have hjP : j < (plL ls).length := by rw [plL_len]; exact hlt
                      have ePl := plL_get ls hlt
                      have HTK := Lib.hid (List.take_succ_eq_append_getElem hlt)
                      obtain ⟨x, hx⟩ : ∃ t, t = ls[j] := ⟨_, rfl⟩
                      rw [← hx] at hlc' hlr hzx ePl HTK
                      have hxG : x.l.length = G.length := by rw [HGL.out, ← ePl]; exact HXX.out.mo.eq j hjP
                      have hx12 : x.l.length ≤ 12 := by omega
                      have okx : OkW x.l := by rw [← ePl]; exact HXX.out.mo.ok j hjP
                      have hmk := map4_cases (tl := tl) okx
                      obtain ⟨⟨mi, me⟩, hme⟩ : ∃ y, mapR x.l tl 4 = y := ⟨_, rfl⟩
                      have HMI : Hid (∀ W X Y x' y, Sl intCell 1 W W.heap.size X x.l → Sl intCell 1 W W.heap.size Y tl → Calls Try.prog 25 #[.slice X x.l.length x', .slice Y tl.length y, .int .i64 4] W (RetSlA mi me W)) := (fun W X Y x' y h1 h2 => by
                        have h := map_arr X Y x' y x.l tl 4 W (by omega) (by omega) h1 h2; rw [hme] at h; exact h : ∀ W X Y x' y, _)
                      have HLR := Lib.hid (fun W (h : Below wr.heap.size wr W) => own_any x.a x.c x.l W (by omega) hzx (((hlr.more hwr.size).below h).more h.size))
                      rw [hme] at hmk
                      simp only at hmk
                      have HMK := Lib.hid hmk; have HXG := Lib.hid hxG
                      have hj0 : (0 : Int) ≤ (j : Int) := by omega
                      have hj1 : (j : Int) < (ls.length : Int) := by omega
                      have hhdr : ab < wr.heap.size := by have := hwr.size; omega
                      have c0 := gxr.cell 1
                      have c9 := hlc'
                      simp at c0
                      clear hx ePl hxG okx hlr hzx hme hmk hjP
                      go_upto_region 41 with fail
                      go_region_held (fun W' => W'.cell? ⟨ab, ao + j, none⟩ = some (.slice x.a x.l.length x.c) ∧ W'.cell? ⟨w.heap.size, 1, none⟩ = some (.slice A4 tl.length c4)) (first | exact ⟨c9, c0⟩ | go_keep)
                        (first | (go_at_call 18; have _ := hb1; (with_reducible refine (HO4.out _ (bl2 hwr hx1)).mono ?_); rintro _ X2 ⟨F2, f2, rfl, hs2, -, hb2⟩; have hx2 := bl2 hx1 hb2; have gx2' := gxr.below hx2 gxr.lt; have c0 := gx2'.cell 1; have c9 := (hx2.cell (p := ⟨ab, ao + j, none⟩) hhdr).trans hlc'; simp at c0) | (go_at_call 18; (with_reducible refine (HLR.out _ (Below.refl _ _).drew).mono ?_); rintro _ X1 ⟨F1, f1, rfl, hs1, -, hb1⟩; have hx1 : Below wr.heap.size wr X1 := Below.trans (Below.refl _ _).drew hb1; have gx1' := gxr.below hx1 gxr.lt; have c0 := gx1'.cell 1; have c9 := (hx1.cell (p := ⟨ab, ao + j, none⟩) hhdr).trans hlc'; simp at c0) | (go_at_call 25; (with_reducible refine (HMI.out _ _ _ _ _ ((hs1.below hb2).more hb2.size) hs2).mono ?_); rintro _ X3 ⟨F3, f3, rfl, hs3, -, har, hb3'⟩; have hx3 := bl2 hx2 hb3'; have gx3' := gxr.below hx3 gxr.lt; have c0 := gx3'.cell 1; have c9 := (hx3.cell (p := ⟨ab, ao + j, none⟩) hhdr).trans hlc'; simp at c0))
                      all_goals (
                        by_cases hme : me = 0
                        · subst hme
                          obtain ⟨e1, e2, e3⟩ := HMK.out.1 rfl
                          injection e1 with e1 _
                          obtain ⟨B24, hF, hA⟩ := har rfl
                          subst hF
                          have hwX := bl2 hwr hx3
                          have HOW := Lib.hid (row_below' hown.out hx3)
                          have hol := hlj.out
                          have HC5 : Hid (∀ (i : Nat) (u : Value), [Value.slice (some ⟨B24, 0, none⟩) mi.length f3][i]? = some u → (X3.alloc (.cells #[.slice (some ⟨B24, 0, none⟩) mi.length f3] 22)).cell? ((⟨X3.heap.size, 0, none⟩ : Addr).add i) = some u) := (fun i u hu => by
                            rw [Go.WideShapes.add_plain, Nat.zero_add, (Blk.new X3 _ _).cell i, ← hu]; simp)
                          have hz5 := hx3.size
                          have hz3 := hb3.size
                          have HA := Lib.hid hA; have HE1 := Lib.hid e1; have HE2 := Lib.hid e2; have HE3 := Lib.hid e3
                          have HX3 := Lib.hid hx3
                          clear hA e1 e2 e3 har hs1 hs2 hs3 hb1 hb2 hb3' hx1 hx2 hx3 gx1' gx2' gx3' c0 c9 HMK HMI HLR
                          go_wp2_with (at_builtin; refine wpList_append_own _ rfl _ _ 31 rfl V3.heap.size 22 i1 (.slice none 0 0) 1 24 uIntss hi1 iy0 iy1 iy2 rfl (by decide) _ _ _ rfl (HOW.out.alloc _) ⟨X3.heap.size, 0, none⟩ 1 1 [.slice (some ⟨B24, 0, none⟩) mi.length f3] rfl rfl HC5.out (by simp [Value.oneCell']) (by unfold maxLen; omega) (by omega) (by simp; omega) ?_; intro v' w5 hown5 hgrow _)
                          have hb45 : Below V3.heap.size wr w5 := ((HX3.out.mono hz3).alloc (by omega) _).grown hgrow (by simp; omega) (fun g hg => (hown.out.lt g hg).1)
                          go_wp2
                          go_roundw
                          case rel =>
                            refine ⟨j + 1, mm ++ [⟨some ⟨B24, 0, none⟩, f3, mi⟩], by omega, by go_num, (by show _ = _; simp [hol]), (by show World.ownsRow _ _ _ _ _ _ _; simpa [flat, LL.cells, LL.val] using hown5), ?_, ?_, (fun _ => ⟨HE2.out.trans HXG.out, HE3.out⟩), hbr.out.trans hb45⟩
                            · show ∀ r ∈ _, _
                              have hAA : ∀ q : LL, ArrL (X3.alloc (.cells #[.slice (some ⟨B24, 0, none⟩) mi.length f3] 22)) q → ArrL w5 q := fun q ⟨b, h1, h2⟩ => ⟨b, h1, Blk.grown h2 hgrow (own_ne_blk' (HOW.out.alloc (.cells #[.slice (some ⟨B24, 0, none⟩) mi.length f3] 22)) h2 (by decide))⟩
                              intro q hq
                              rcases List.mem_append.1 hq with hq | hq
                              · obtain ⟨b, h1, h2⟩ := hrows.out q hq
                                exact hAA q ⟨b, h1, Blk.alloc (Blk.below h2 HX3.out h2.lt_) _⟩
                              · obtain rfl : q = _ := by simpa using hq
                                exact hAA _ ⟨B24, rfl, Blk.alloc HA.out _⟩
                            · show _ = _
                              rw [HTK.out, List.map_append, List.map_append, hpl.out, HE1.out]; rfl
                          case measure => simp [intOf]; omega
                        · have dm2 := HMK.out.2 hme
                          subst dm2
                          have hwX := bl2 hwr hx3
                          clear HMK HMI HLR har hme
                          go_wp2_with (go_at_call 16; refine (known_any _).mono ?_; rintro _ V5 ⟨rfl, hb5⟩)
                          go_ret
                          exact ⟨rfl, bl2 hwX hb5⟩)
                    · obtain rfl : j = ls.length := by omega
                      have hb3 := hbr.out
                      have hwr := bl2 hwV3 hb3
                      obtain ⟨Bm, dm', hv, hs⟩ := Sl.of_own hown.out
                      subst hv
                      obtain ⟨k1, k2⟩ := hco.out (by have := hG0; have := HXX.out.len_pos; rw [plL_len] at this; exact this)
                      have hpl' : mm.map LL.l = ls.map (fun x => mapTo x.l tl 4 x.l.length) := by have h := hpl.out; rw [List.take_length] at h; exact h
                      have hmml := hlj.out
                      have hMd : Mapd (plL ls) (plL mm) tl := by
                        refine ⟨by rw [plL_len, plL_len, hmml], fun i hi => ?_⟩
                        rw [plL_len] at hi
                        have hi' : i < mm.length := by omega
                        rw [plL_get ls hi, plL_get mm hi']
                        have h := congrArg (fun t => t[i]?) hpl'
                        simpa [hi, hi'] using h
                      obtain ⟨l2, hm2, hl2, okA, ok2, hlow⟩ := map_mix HXX.out hMd (by rw [k1, HGL.out]) k2
                      rw [← HGG.out, ← HGL.out] at okA hlow
                      have hmok : ∀ x ∈ mm, errW x.l = 0 := fun x hx => by
                        obtain ⟨i, hi, rfl⟩ := List.mem_iff_getElem.1 hx
                        have hi' : i < ls.length := by omega
                        have h := hMd.eq i (by rw [plL_len]; exact hi')
                        rw [plL_get mm hi, plL_get ls hi'] at h
                        rw [h]
                        have ho := HXX.out.mo.ok i (by rw [plL_len]; exact hi')
                        have he := HXX.out.mo.eq i (by rw [plL_len]; exact hi')
                        rw [plL_get ls hi'] at ho he
                        exact errW_zero.2 (map4_ok ho (by rw [k1, HGL.out, he]) k2).1
                      have hmm4 : ∀ x ∈ mm, x.l.length ≤ 1000000000 := fun x hx => Nat.le_trans (errW_zero.1 (hmok x hx)).len (by omega)
                      have hLists : Lists wr wr.heap.size Bm mm := ⟨hs, fun x hx => by
                        obtain ⟨b, h1, h2⟩ := hrows.out x hx
                        rw [h1]; exact h2.sl⟩
                      have HMX2 : Hid (∀ W X x, Sl intCell 1 W W.heap.size X cs → Below wr.heap.size wr W → Calls Try.prog 21 #[.slice X cs.length x, .slice Bm mm.length dm'] W (RetSlE l2 0 W)) := (fun W X x h1 hW => by
                        have h := mix_any X Bm x dm' cs mm W (by omega) (by omega) hmm4 h1 ((hLists.below hW).more hW.size)
                        rw [errsW_zero hmok, hm2] at h; exact h : ∀ W X x, _)
                      have hmG : mapR G tl 4 = (mapTo G tl 4 G.length, 0) := by
                        have okG : OkW G := by rw [HGG.out]; exact low_ok HXX.out.xok
                        refine ((map4_cases (tl := tl) okG).1 ?_).1
                        rcases Classical.em ((mapR G tl 4).2 = 0) with h | h
                        · exact h
                        · exfalso
                          unfold mapR at h
                          rw [if_neg (fun hh => hh (errW_zero.2 okG)), if_neg (by omega), if_neg] at h
                          · exact h rfl
                          · rintro (h1 | h1)
                            · exact h1 k1
                            · obtain ⟨y, hy, hb⟩ := List.any_eq_true.1 h1
                              have := k2 y hy
                              simp [outB] at hb
                              omega
                      obtain ⟨aG, haG⟩ : ∃ y, y = mapTo G tl 4 G.length := ⟨_, rfl⟩
                      have hsm := sameB_low okA ok2 hlow
                      rw [← haG] at hmG okA hsm
                      have HMG : Hid (∀ W X Y x' y, Sl intCell 1 W W.heap.size X G → Sl intCell 1 W W.heap.size Y tl → Calls Try.prog 25 #[.slice X G.length x', .slice Y tl.length y, .int .i64 4] W (RetSlA aG 0 W)) := (fun W X Y x' y h1 h2 => by
                        have h := map_arr X Y x' y G tl 4 W (by omega) (by omega) h1 h2; rw [hmG] at h; exact h : ∀ W X Y x' y, _)
                      have haGl := okA.len
                      have hl2l := ok2.len
                      have HSM := Lib.hid hsm
                      have hbW2 := bl2 hV3 hb3
                      have gxr := gx3.below hb3 gx3.lt
                      have c0 := gxr.cell 1
                      simp at c0
                      clear hl2 hMd hm2 okA ok2 hlow hmok hmm4 hLists hmG haG hsm hs hpl' hmml k1 k2 hown hrows hpl hlj hco
                      --T a
                      go_upto_region 45 with fail
                      --T b
                      go_region_held (fun W' => W'.cell? ⟨w.heap.size, 1, none⟩ = some (.slice A4 tl.length c4)) (first | exact c0 | go_keep)
                        (first | (go_at_call 18; have _ := hb1; (with_reducible refine (HO4.out _ (bl2 hwr hx1)).mono ?_); rintro _ Y2 ⟨F2, f2, rfl, hs2, -, hb2⟩; have hx2 := bl2 hx1 hb2; have gx2' := gxr.below hx2 gxr.lt; have c0 := gx2'.cell 1; simp at c0) | (go_at_call 18; (with_reducible refine (HOWG.out _ hbW2.drew).mono ?_); rintro _ Y1 ⟨F1, f1, rfl, hs1, -, hb1⟩; have hx1 : Below wr.heap.size wr Y1 := Below.trans (Below.refl _ _).drew hb1; have gx1' := gxr.below hx1 gxr.lt; have c0 := gx1'.cell 1; simp at c0) | (go_at_call 25; (with_reducible refine (HMG.out _ _ _ _ _ ((hs1.below hb2).more hb2.size) hs2).mono ?_); rintro _ Y3 ⟨F3, f3, rfl, hs3, hz3, -, hb3'⟩; have hx3 := bl2 hx2 hb3'; have gx3' := gxr.below hx3 gxr.lt; have c0 := gx3'.cell 1; simp at c0))
                      --T c
                      all_goals (
                        have hwY := bl2 hwr hx3
                        have HA3 := Lib.hid hs3; have HZ3 := Lib.hid hz3; have HX3 := Lib.hid hx3
                        clear hs1 hs2 hs3 hb1 hb2 hb3' hx1 hx2 hx3 gx1' gx2' gx3' c0 hz3
                        go_wp2_with (first | (go_at_call 18; (with_reducible refine (HOC.out _ hwY).mono ?_); rintro _ Z1 ⟨E1, e1, rfl, hs1, -, hb1⟩) | (go_at_call 21; (with_reducible refine (HMX2.out _ _ _ hs1 (bl2 HX3.out hb1)).mono ?_); rintro _ Z2 ⟨E2, e2, rfl, hs2, hz2, hb2⟩) | (go_at_call 30; refine (lsame_any F3 E2 f3 e2 aG l2 Z2 (by omega) (by omega) HZ3.out hz2 ((HA3.out.below (bl2 hb1 hb2)).more (bl2 hb1 hb2).size) hs2).mono ?_; rw [HSM.out]; rintro _ Z3 ⟨rfl, hb3'⟩) | (go_at_call 16; refine (known_any _).mono ?_; rintro _ Z4 ⟨rfl, hb4⟩))
                        --T d
                        go_ret
                        --T e
                        exact ⟨rfl, bl2 (bl2 (bl2 hwY (bl2 hb1 hb2)) hb3') hb4⟩)
            · have dm := mix_not (cs := cs) (L := plL ls) (el := errsW ls) (by rw [hL]; exact her)
              rw [hL] at dm
              simp only at dm
              subst dm
              have der : (er != 0) = true := by simpa using her
              clear her hL
              refine Lib.hid ?_
              go_wp2_with (go_at_call 16; refine (known_any _).mono ?_; rintro _ W3 ⟨rfl, hb3⟩)
              go_ret
              exact ⟨rfl, bl2 hw2 hb3⟩
end Go.Proofs.Ytmfbiohdmhbkoaa

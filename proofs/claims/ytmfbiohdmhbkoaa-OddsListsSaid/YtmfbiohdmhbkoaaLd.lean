/- The walk of the law OddsLists. -/
import Derived.Test.YtmfbiohdmhbkoaaLb
import Derived.Test.YtmfbiohdmhbkoaaRg
namespace Go.Proofs.Ytmfbiohdmhbkoaa
open Go.RowKit

theorem givenR_len (l o : List Int) : (givenR l o).1.length ≤ 4096 := by
  unfold givenR
  split
  · rename_i h
    split
    · split
      · simp
      · show (keepL l o).length ≤ 4096
        rw [keepL_len]; exact (errW_zero.1 h).len
    · simp
  · simp
set_option maxRecDepth 100000 in
set_option maxHeartbeats 8000000 in
theorem lwlists_any (A A2 : Option Addr) (c c2 : Nat) (l o : List Int) (w : World) (hz : A = none → c = 0) (hz2 : A2 = none → c2 = 0) (hr : Sl intCell 1 w w.heap.size A l) (hr2 : Sl intCell 1 w w.heap.size A2 o) :
    Calls Try.prog 9 #[.slice A l.length c, .slice A2 o.length c2] w fun e w' => e = .returned (.bool true) ∧ Below w.heap.size w w' := by
  have hGl := givenR_len l o
  obtain ⟨⟨cn, cd, ce⟩, hof⟩ : ∃ x, ofR l o = x := ⟨_, rfl⟩
  have HOF := Lib.hid hof
  obtain ⟨⟨G, ge⟩, hgv⟩ : ∃ x, givenR l o = x := ⟨_, rfl⟩
  have HGV := Lib.hid hgv
  rw [hgv] at hGl
  replace hGl : G.length ≤ 4096 := hGl
  have HR := Lib.hid hr; have HR2 := Lib.hid hr2
  clear hof hgv hr hr2
  by_cases hlg : longB l.length = true
  · have HLG := Lib.hid hlg
    clear hlg
    go_enter Try.func9, Try.ntmps9
    go_wp2_with (first | (go_at_call 15; refine (long_any A c l _).mono ?_; rw [HLG.out]; rintro _ _ ⟨rfl, rfl⟩) | (go_at_call 16; refine (known_any _).mono ?_; rintro _ W1 ⟨rfl, hb1⟩))
    go_ret
    exact ⟨rfl, hb1⟩
  · simp only [Bool.not_eq_true] at hlg
    have hle := (longB_le hlg).1
    have HLG := Lib.hid hlg
    have hlen : l.length ≤ 1000000 := by omega
    clear hlg
    by_cases c1 : 400 < o.length
    · have d1 : decide ((400 : Int) < (o.length : Int)) = true := by simp; omega
      go_enter Try.func9, Try.ntmps9
      go_wp2_with (first | (go_at_call 15; refine (long_any A c l _).mono ?_; rw [HLG.out]; rintro _ _ ⟨rfl, rfl⟩) | (go_at_call 16; refine (known_any _).mono ?_; rintro _ W1 ⟨rfl, hb1⟩))
      go_ret
      exact ⟨rfl, hb1⟩
    · have d1 : decide ((400 : Int) < (o.length : Int)) = false := by simp; omega
      have hlen2 : o.length ≤ 1000000 := by omega
      by_cases he : errW l = 0
      · have HOK := Lib.hid (errW_zero.1 he)
        have HEV := Lib.hid he
        have HTO : Hid (totalR l = (sumL l, 0)) := (by unfold totalR; rw [if_pos he] : totalR l = _)
        have HLO : Hid (lowestR l = (lowL l, 0)) := (by unfold lowestR; rw [if_pos he] : lowestR l = _)
        clear he
        go_enter Try.func9, Try.ntmps9
        go_wp2_with (first | (go_at_call 15; refine (long_any A c l _).mono ?_; rw [HLG.out]; rintro _ _ ⟨rfl, rfl⟩) | (go_at_call 18; refine (own_any A c l _ hlen hz HR.out).mono ?_; rintro _ W1 ⟨A1, c1, rfl, hs1, -, hb1⟩; refine Hid.out ?_))
        have HIN := Lib.hid hs1
        clear hs1
        refine Lib.hid ?_
        go_wp2_with (first | (go_at_call 31; refine (check_any A1 c1 l W1 (by omega) HIN.out).mono ?_; rw [HEV.out]; rintro _ _ ⟨rfl, rfl⟩) | (go_at_call 32; refine (total_any A1 c1 l W1 (by omega) HIN.out).mono ?_; rw [HTO.out]; rintro _ W2 ⟨rfl, hb2⟩; refine Hid.out ?_))
        have HIN2 := Lib.hid ((HIN.out.below hb2).more hb2.size)
        refine Lib.hid ?_
        go_wp2_with (go_at_call 33; refine (lowestF_any A1 c1 l W2 (by omega) HIN2.out).mono ?_; rw [HLO.out]; rintro _ W3 ⟨A3, c3, rfl, hs3, -, hb3⟩; refine Hid.out ?_)
        have hx3 := bl2 hb2 hb3
        have hw3 := bl2 hb1 hx3
        have HS3 := Lib.hid hs3
        have HIN3 := Lib.hid ((HIN.out.below hx3).more hx3.size)
        have HO3 := Lib.hid ((HR2.out.below hw3).more hw3.size)
        clear hb2 hb3 hs3 HIN2 hb1
        refine Lib.hid ?_
        go_wp2_with (first | (go_at_call 18; refine (own_any A2 c2 o _ hlen2 hz2 HO3.out).mono ?_; rintro _ W4 ⟨A4, c4, rfl, hs4, -, hb4⟩) | (go_at_call 34; refine (of_any A1 A4 c1 c4 l o W4 (by omega) (by omega) ((HIN3.out.below hb4).more hb4.size) hs4).mono ?_; rw [HOF.out]; rintro _ W5 ⟨rfl, hb5⟩; refine Hid.out ?_))
        have hy5 := bl2 hb4 hb5
        clear hb4 hb5 hs4
        have g5 := Blk.new W5 #[.int .i64 cn, .int .i64 cd] 51
        have hy5' := hy5.alloc hy5.size (.cells #[.int .i64 cn, .int .i64 cd] 51)
        refine Lib.hid ?_
        go_wp2_with (first | (go_at_call 18; refine (own_any A2 c2 o _ hlen2 hz2 ((HO3.out.below hy5').more hy5'.size)).mono ?_; rintro _ W6 ⟨A6, c6, rfl, hs6, -, hb6⟩) | (go_at_call 35; refine (given_any A1 A6 c1 c6 l o W6 (by omega) (by omega) ((HIN3.out.below (bl2 hy5' hb6)).more (bl2 hy5' hb6).size) hs6).mono ?_; rw [HGV.out]; rintro _ W7 ⟨A7, c7, rfl, hs7, -, hb7⟩; refine Hid.out ?_))
        have hz7 := bl2 hb6 hb7
        have hy7 := bl2 hy5' hz7
        have g7 := g5.below hz7 g5.lt
        have HS7 := Lib.hid hs7
        have hw7 := bl2 hw3 hy7
        have HIN7 := Lib.hid ((HIN3.out.below hy7).more hy7.size)
        have HR7 := Lib.hid ((HR.out.below hw7).more hw7.size)
        clear hb6 hb7 hs6 hs7 hz7 hy5 hy5' g5
        refine Lib.hid ?_
        go_wp2_with (first | (go_at_call 36; refine (rcheck_any A c l W7 HR7.out).mono ?_; rw [HEV.out]; rintro _ _ ⟨rfl, rfl⟩) | (go_at_call 20; refine (requal_any A1 A c1 c l l W7 (by omega) HIN7.out HR7.out).mono ?_; rw [beq_self_eq_true]; rintro _ W8 ⟨rfl, hb8⟩; refine Hid.out ?_))
        have hw8 := bl2 hw7 hb8
        have HR8 := Lib.hid ((HR.out.below hw8).more hw8.size)
        have HO8 := Lib.hid ((HR2.out.below hw8).more hw8.size)
        have g8 := g7.below hb8 g7.lt
        refine Lib.hid ?_
        go_wp2_with (go_at_call 37; refine (rof_any A A2 c c2 l o W8 (by omega) HR8.out HO8.out).mono ?_; rw [HOF.out]; rintro _ W9 ⟨rfl, hb9⟩; refine Hid.out ?_)
        have hb9' := hb9.alloc hb9.size (.cells #[.int .i64 cn, .int .i64 cd] 51)
        have g9 := (g8.below hb9 g8.lt).alloc (.cells #[.int .i64 cn, .int .i64 cd] 51)
        have k9 := Blk.new W9 #[.int .i64 cn, .int .i64 cd] 51
        refine Lib.hid ?_
        go_wp2_with (go_at_call 38; refine (rgiven_any A A2 c c2 l o _ (by omega) ((HR8.out.below hb9').more hb9'.size) ((HO8.out.below hb9').more hb9'.size)).mono ?_; rw [HGV.out]; rintro _ W10 ⟨A10, c10, rfl, hs10, -, hb10⟩; refine Hid.out ?_)
        have g10 := g9.below hb10 g9.lt
        have k10 := k9.below hb10 k9.lt
        have s0 := g10.cell 0; have s1 := g10.cell 1; have t0 := k10.cell 0; have t1 := k10.cell 1
        simp at s0 s1 t0 t1
        have hv10 := bl2 hb8 (bl2 hb9' hb10)
        have HS710 := Lib.hid ((HS7.out.below hv10).more hv10.size)
        have HS10 := Lib.hid hs10
        have hw10 := bl2 hw7 hv10
        clear hs10 hb8 hb9 hb9' hb10 g7 g8 g9 k9 HR7 HIN7 HIN3
        refine Lib.hid ?_
        go_wp2_with (go_at_call 20; refine (requal_any A7 A10 c7 c10 G G W10 (by omega) HS710.out HS10.out).mono ?_; rw [beq_self_eq_true]; rintro _ W11 ⟨rfl, hb11⟩; refine Hid.out ?_)
        have hw11 := bl2 hw10 hb11
        have hu11 := bl2 (bl2 hy7 hv10) hb11
        have HS11 := Lib.hid ((HS3.out.below hu11).more hu11.size)
        have HR11 := Lib.hid ((HR.out.below hw11).more hw11.size)
        clear hb11 hv10 hw10 g10 k10 s0 s1 t0 t1
        refine Lib.hid ?_
        go_wp2_with (first | (go_at_call 39; refine (rtotal_any A c l W11 (by omega) HOK.out.nn (by have := HOK.out.le; omega) HR11.out).mono ?_; rintro _ _ ⟨rfl, rfl⟩) | (go_at_call 40; refine (rlow_any A c l W11 HOK.out HR11.out).mono ?_; rintro _ W12 ⟨A12, c12, rfl, hs12, -, hb12⟩; have HS12 := Lib.hid hs12; clear hs12) | (go_at_call 20; refine (requal_any A3 A12 c3 c12 (lowL l) (lowL l) W12 (by rw [lowL_len]; omega) ((HS11.out.below hb12).more hb12.size) HS12.out).mono ?_; rw [beq_self_eq_true]; rintro _ W13 ⟨rfl, hb13⟩) | (go_at_call 16; refine (known_any _).mono ?_; rintro _ W14 ⟨rfl, hb14⟩))
        go_ret
        exact ⟨rfl, bl2 (bl2 (bl2 hw11 hb12) hb13) hb14⟩
      · have HTO : Hid (totalR l = (0, errW l)) := (by unfold totalR; rw [if_neg he] : totalR l = _)
        have HLO : Hid (lowestR l = ([], errW l)) := (by unfold lowestR; rw [if_neg he] : lowestR l = _)
        have hne : (errW l != 0) = true := by simpa using he
        obtain ⟨ev, hev⟩ : ∃ ev, errW l = ev := ⟨_, rfl⟩
        have HEV := Lib.hid hev
        rw [hev] at HTO HLO hne
        clear he hev
        go_enter Try.func9, Try.ntmps9
        go_wp2_with (first | (go_at_call 15; refine (long_any A c l _).mono ?_; rw [HLG.out]; rintro _ _ ⟨rfl, rfl⟩) | (go_at_call 18; refine (own_any A c l _ hlen hz HR.out).mono ?_; rintro _ W1 ⟨A1, c1, rfl, hs1, -, hb1⟩; refine Hid.out ?_))
        have HIN := Lib.hid hs1
        clear hs1
        refine Lib.hid ?_
        go_wp2_with (first | (go_at_call 31; refine (check_any A1 c1 l W1 (by omega) HIN.out).mono ?_; rw [HEV.out]; rintro _ _ ⟨rfl, rfl⟩) | (go_at_call 32; refine (total_any A1 c1 l W1 (by omega) HIN.out).mono ?_; rw [HTO.out]; rintro _ W2 ⟨rfl, hb2⟩; refine Hid.out ?_))
        have HIN2 := Lib.hid ((HIN.out.below hb2).more hb2.size)
        refine Lib.hid ?_
        go_wp2_with (go_at_call 33; refine (lowestF_any A1 c1 l W2 (by omega) HIN2.out).mono ?_; rw [HLO.out]; rintro _ W3 ⟨A3, c3, rfl, hs3, -, hb3⟩; refine Hid.out ?_)
        have hx3 := bl2 hb2 hb3
        have hw3 := bl2 hb1 hx3
        have HS3 := Lib.hid hs3
        have HIN3 := Lib.hid ((HIN.out.below hx3).more hx3.size)
        have HO3 := Lib.hid ((HR2.out.below hw3).more hw3.size)
        clear hb2 hb3 hs3 HIN2 hb1
        refine Lib.hid ?_
        go_wp2_with (first | (go_at_call 18; refine (own_any A2 c2 o _ hlen2 hz2 HO3.out).mono ?_; rintro _ W4 ⟨A4, c4, rfl, hs4, -, hb4⟩) | (go_at_call 34; refine (of_any A1 A4 c1 c4 l o W4 (by omega) (by omega) ((HIN3.out.below hb4).more hb4.size) hs4).mono ?_; rw [HOF.out]; rintro _ W5 ⟨rfl, hb5⟩; refine Hid.out ?_))
        have hy5 := bl2 hb4 hb5
        clear hb4 hb5 hs4
        have g5 := Blk.new W5 #[.int .i64 cn, .int .i64 cd] 51
        have hy5' := hy5.alloc hy5.size (.cells #[.int .i64 cn, .int .i64 cd] 51)
        refine Lib.hid ?_
        go_wp2_with (first | (go_at_call 18; refine (own_any A2 c2 o _ hlen2 hz2 ((HO3.out.below hy5').more hy5'.size)).mono ?_; rintro _ W6 ⟨A6, c6, rfl, hs6, -, hb6⟩) | (go_at_call 35; refine (given_any A1 A6 c1 c6 l o W6 (by omega) (by omega) ((HIN3.out.below (bl2 hy5' hb6)).more (bl2 hy5' hb6).size) hs6).mono ?_; rw [HGV.out]; rintro _ W7 ⟨A7, c7, rfl, hs7, -, hb7⟩; refine Hid.out ?_))
        have hz7 := bl2 hb6 hb7
        have hy7 := bl2 hy5' hz7
        have g7 := g5.below hz7 g5.lt
        have HS7 := Lib.hid hs7
        have hw7 := bl2 hw3 hy7
        have HIN7 := Lib.hid ((HIN3.out.below hy7).more hy7.size)
        have HR7 := Lib.hid ((HR.out.below hw7).more hw7.size)
        clear hb6 hb7 hs6 hs7 hz7 hy5 hy5' g5
        refine Lib.hid ?_
        go_wp2_with (first | (go_at_call 36; refine (rcheck_any A c l W7 HR7.out).mono ?_; rw [HEV.out]; rintro _ _ ⟨rfl, rfl⟩) | (go_at_call 20; refine (requal_any A1 A c1 c l l W7 (by omega) HIN7.out HR7.out).mono ?_; rw [beq_self_eq_true]; rintro _ W8 ⟨rfl, hb8⟩; refine Hid.out ?_))
        have hw8 := bl2 hw7 hb8
        have HR8 := Lib.hid ((HR.out.below hw8).more hw8.size)
        have HO8 := Lib.hid ((HR2.out.below hw8).more hw8.size)
        have g8 := g7.below hb8 g7.lt
        refine Lib.hid ?_
        go_wp2_with (go_at_call 37; refine (rof_any A A2 c c2 l o W8 (by omega) HR8.out HO8.out).mono ?_; rw [HOF.out]; rintro _ W9 ⟨rfl, hb9⟩; refine Hid.out ?_)
        have hb9' := hb9.alloc hb9.size (.cells #[.int .i64 cn, .int .i64 cd] 51)
        have g9 := (g8.below hb9 g8.lt).alloc (.cells #[.int .i64 cn, .int .i64 cd] 51)
        have k9 := Blk.new W9 #[.int .i64 cn, .int .i64 cd] 51
        refine Lib.hid ?_
        go_wp2_with (go_at_call 38; refine (rgiven_any A A2 c c2 l o _ (by omega) ((HR8.out.below hb9').more hb9'.size) ((HO8.out.below hb9').more hb9'.size)).mono ?_; rw [HGV.out]; rintro _ W10 ⟨A10, c10, rfl, hs10, -, hb10⟩; refine Hid.out ?_)
        have g10 := g9.below hb10 g9.lt
        have k10 := k9.below hb10 k9.lt
        have s0 := g10.cell 0; have s1 := g10.cell 1; have t0 := k10.cell 0; have t1 := k10.cell 1
        simp at s0 s1 t0 t1
        have hv10 := bl2 hb8 (bl2 hb9' hb10)
        have HS710 := Lib.hid ((HS7.out.below hv10).more hv10.size)
        have HS10 := Lib.hid hs10
        have hw10 := bl2 hw7 hv10
        clear hs10 hb8 hb9 hb9' hb10 g7 g8 g9 k9 HR7 HIN7 HIN3
        refine Lib.hid ?_
        go_wp2_with (go_at_call 20; refine (requal_any A7 A10 c7 c10 G G W10 (by omega) HS710.out HS10.out).mono ?_; rw [beq_self_eq_true]; rintro _ W11 ⟨rfl, hb11⟩; refine Hid.out ?_)
        have hw11 := bl2 hw10 hb11
        have hu11 := bl2 (bl2 hy7 hv10) hb11
        have HS11 := Lib.hid ((HS3.out.below hu11).more hu11.size)
        have HR11 := Lib.hid ((HR.out.below hw11).more hw11.size)
        clear hb11 hv10 hw10 g10 k10 s0 s1 t0 t1
        refine Lib.hid ?_
        go_wp2_with (go_at_call 16; refine (known_any _).mono ?_; rintro _ W12 ⟨rfl, hb12⟩)
        go_ret
        exact ⟨rfl, bl2 hw11 hb12⟩
end Go.Proofs.Ytmfbiohdmhbkoaa

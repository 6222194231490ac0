/- habit: the law HabitRanks. -/
import Derived.Test.YtiikkcifdhcejaaZ33Um
import Derived.Test.YtiikkcifdhcejaaUl
import Derived.Test.YtiikkcifdhcejaaWz
import Derived.Test.YtiikkcifdhcejaaLc
namespace Go.Proofs.Ytiikkcifdhcejaa
open Go.RowKit

theorem infoModel : (Try.prog.info? 25).map (fun i => (i.zero, i.size, i.bytes)) = some (some (.agg #[.int .i64 0, .slice none 0 0, .int .i64 0]), 3, 40) := by kernel_rfl
theorem uModelsL : Try.prog.underlying 41 = some (.slice 25) := by kernel_rfl
theorem not_large {x : Md} {W : World} {B : Nat} (h : Lists W B x.a x.rows) (hl : largeB x.m = false) : x.reads W B := by
  unfold largeB Md.m at hl
  simp only [Bool.or_eq_false_iff, decide_eq_false_iff_not, List.any_map, List.any_eq_false, List.length_map] at hl
  exact ⟨h, by omega, fun r hr => by have := hl.2 r hr; simp at this; omega⟩
set_option maxRecDepth 100000 in
set_option maxHeartbeats 4000000 in
theorem lwrank_any (mA : Option Addr) (mc : Nat) (ms : List Md) (lA : Option Addr) (lc : Nat) (l : List Int) (w : World) (hs : Sl Md.cells 3 w w.heap.size mA ms)
    (he : ∀ x ∈ ms, Lists w w.heap.size x.a x.rows ∧ ∀ r ∈ x.rows, r.a = none → r.c = 0) (hl : Sl intCell 1 w w.heap.size lA l) (hlA : lA = none → lc = 0) :
    Calls Try.prog 10 #[.slice mA ms.length mc, .slice lA l.length lc] w fun e w' => e = .returned (.bool true) ∧ Below w.heap.size w w' := by
  obtain ⟨i1, hi1, iy0, iy1, iy2⟩ := info_parts infoModel
  have HT := Lib.hid hs; have HE := Lib.hid he; have HL := Lib.hid hl; have HLN := Lib.hid hlA
  clear hs he hl hlA
  obtain ⟨gd, hgd⟩ : ∃ gd : Bool, gd = (decide (8 < ms.length ∧ ms.length ≤ 20) || decide (24 < ms.length) || decide (60 < l.length ∧ l.length ≤ 400) || decide (410 < l.length)) := ⟨_, rfl⟩
  have HGD := Lib.hid hgd
  clear hgd
  have hw : Below w.heap.size w w := Below.refl _ _
  go_enter Try.func10, Try.ntmps10
  go_upto_region 1 with fail
  go_cut [37] (fun s37 wx => s37 = .bool gd ∧ w = wx)
  case first =>
    have K1 : (ms.length ≤ 8 ∨ (8 < ms.length ∧ ms.length ≤ 20)) ∨ ((20 < ms.length ∧ ms.length ≤ 24) ∨ 24 < ms.length) := by omega
    have K2 : (l.length ≤ 60 ∨ (60 < l.length ∧ l.length ≤ 400)) ∨ ((400 < l.length ∧ l.length ≤ 410) ∨ 410 < l.length) := by omega
    have hgd := HGD.out
    clear HGD HT HE HL HLN hw
    rcases K1 with (k | ⟨k, k'⟩) | (⟨k, k'⟩ | k)
    · have d1 : decide ((8 : Int) < (ms.length : Int)) = false := by simp; omega
      have d3 : decide ((24 : Int) < (ms.length : Int)) = false := by simp; omega
      rcases K2 with (h | ⟨h, h'⟩) | (⟨h, h'⟩ | h)
      · have d4 : decide ((60 : Int) < (l.length : Int)) = false := by simp; omega
        have d6 : decide ((410 : Int) < (l.length : Int)) = false := by simp; omega
        obtain rfl : gd = false := by rw [hgd]; simp; omega
        clear hgd
        go_wp2_with fail
        go_meet
        exact ⟨rfl, rfl⟩
      · have d4 : decide ((60 : Int) < (l.length : Int)) = true := by simp; omega
        have d5 : decide ((l.length : Int) ≤ 400) = true := by simp; omega
        obtain rfl : gd = true := by rw [hgd]; simp; omega
        clear hgd
        go_wp2_with fail
        go_meet
        exact ⟨rfl, rfl⟩
      · have d4 : decide ((60 : Int) < (l.length : Int)) = true := by simp; omega
        have d5 : decide ((l.length : Int) ≤ 400) = false := by simp; omega
        have d6 : decide ((410 : Int) < (l.length : Int)) = false := by simp; omega
        obtain rfl : gd = false := by rw [hgd]; simp; omega
        clear hgd
        go_wp2_with fail
        go_meet
        exact ⟨rfl, rfl⟩
      · have d4 : decide ((60 : Int) < (l.length : Int)) = true := by simp; omega
        have d5 : decide ((l.length : Int) ≤ 400) = false := by simp; omega
        have d6 : decide ((410 : Int) < (l.length : Int)) = true := by simp; omega
        obtain rfl : gd = true := by rw [hgd]; simp; omega
        clear hgd
        go_wp2_with fail
        go_meet
        exact ⟨rfl, rfl⟩
    · have d1 : decide ((8 : Int) < (ms.length : Int)) = true := by simp; omega
      have d2 : decide ((ms.length : Int) ≤ 20) = true := by simp; omega
      have d2' : decide (ms.length ≤ 20) = true := by simp; omega
      obtain rfl : gd = true := by rw [hgd]; simp; omega
      clear k k' K2 hgd
      go_wp2_with fail
      go_meet
      exact ⟨rfl, rfl⟩
    · have d1 : decide ((8 : Int) < (ms.length : Int)) = true := by simp; omega
      have d2 : decide ((ms.length : Int) ≤ 20) = false := by simp; omega
      have d2' : decide (ms.length ≤ 20) = false := by simp; omega
      have d3 : decide ((24 : Int) < (ms.length : Int)) = false := by simp; omega
      rcases K2 with (h | ⟨h, h'⟩) | (⟨h, h'⟩ | h)
      · have d4 : decide ((60 : Int) < (l.length : Int)) = false := by simp; omega
        have d6 : decide ((410 : Int) < (l.length : Int)) = false := by simp; omega
        obtain rfl : gd = false := by rw [hgd]; simp; omega
        clear hgd
        go_wp2_with fail
        go_meet
        exact ⟨rfl, rfl⟩
      · have d4 : decide ((60 : Int) < (l.length : Int)) = true := by simp; omega
        have d5 : decide ((l.length : Int) ≤ 400) = true := by simp; omega
        obtain rfl : gd = true := by rw [hgd]; simp; omega
        clear hgd
        go_wp2_with fail
        go_meet
        exact ⟨rfl, rfl⟩
      · have d4 : decide ((60 : Int) < (l.length : Int)) = true := by simp; omega
        have d5 : decide ((l.length : Int) ≤ 400) = false := by simp; omega
        have d6 : decide ((410 : Int) < (l.length : Int)) = false := by simp; omega
        obtain rfl : gd = false := by rw [hgd]; simp; omega
        clear hgd
        go_wp2_with fail
        go_meet
        exact ⟨rfl, rfl⟩
      · have d4 : decide ((60 : Int) < (l.length : Int)) = true := by simp; omega
        have d5 : decide ((l.length : Int) ≤ 400) = false := by simp; omega
        have d6 : decide ((410 : Int) < (l.length : Int)) = true := by simp; omega
        obtain rfl : gd = true := by rw [hgd]; simp; omega
        clear hgd
        go_wp2_with fail
        go_meet
        exact ⟨rfl, rfl⟩
    · have d1 : decide ((8 : Int) < (ms.length : Int)) = true := by simp; omega
      have d2 : decide ((ms.length : Int) ≤ 20) = false := by simp; omega
      have d2' : decide (ms.length ≤ 20) = false := by simp; omega
      have d3 : decide ((24 : Int) < (ms.length : Int)) = true := by simp; omega
      obtain rfl : gd = true := by rw [hgd]; simp; omega
      clear k K2 hgd
      go_wp2_with fail
      go_meet
      exact ⟨rfl, rfl⟩
  case rest =>
    obtain ⟨rfl, rfl⟩ := hcut
    cases gd with
    | true =>
      clear HGD
      go_wp2_with (first | (go_at_call 12; refine (known_any _).mono ?_; rintro _ w9 ⟨rfl, hb9⟩; have hw := bl2 hw hb9) | fail)
      go_ret
      exact ⟨rfl, hw⟩
    | false =>
      have hgd := HGD.out
      have hA : (¬(8 < ms.length ∧ ms.length ≤ 20) ∧ ¬(24 < ms.length)) ∧ ¬(60 < l.length ∧ l.length ≤ 400) ∧ ¬(410 < l.length) := by
        have := hgd.symm
        simp only [Bool.or_eq_false_iff, decide_eq_false_iff_not] at this
        exact ⟨this.1.1, this.1.2, this.2⟩
      have HLL : Hid (l.length ≤ 410) := Lib.hid (by omega)
      have hmn : ms.length ≤ 24 := by omega
      have HMN := Lib.hid hmn
      have d12 : (decide ((20 : Int) < (ms.length : Int)) = false ∧ ms.length ≤ 20) ∨ (decide ((20 : Int) < (ms.length : Int)) = true ∧ 20 < ms.length) := by
        rcases Nat.lt_or_ge 20 ms.length with h | h
        · right; simp; omega
        · left; simp; omega
      clear hA hgd HGD hw
      go_wp2_with fail
      refine gen_w (fun W => Hid (RlI w (.slice (some ⟨w.heap.size, 0, none⟩) 0 0) [] W)) (Lib.hid ⟨World.ownsRow_made (e := 25) (size := 3) w #[] 0 (base := w.heap.size) (Nat.le_refl _) (by simp) (by simp), fun y hy => (by cases hy), fun y hy => (by cases hy), by (repeat (first | exact Below.refl _ _ | assumption | (refine Below.alloc ?_ (by first | omega | (simp; omega) | (simp; done)) _) | (refine Below.setCell ?_ (by first | omega | (simp; omega) | (simp; done)) _) | (refine Below.drew ?_) | (refine belowN ?_ _) | (refine Below.trans ?_ (Below.mono ‹Below _ _ _› (by first | omega | (simp; omega) | (simp; done))))))⟩) ?_
      rintro V HR0
      go_loopw [5, 6] (fun inv iv W => ∃ (i : Nat) (ys : List Md), i ≤ ms.length ∧ iv = .int .i64 (i : Int) ∧ Hid (RlI w inv ys W) ∧ Hid (ys.map Md.m = (ms.take i).map Md.m) ∧ Hid (∀ x ∈ ms.take i, largeB x.m = false)) (fun _ iv _ => ms.length - (intOf iv).toNat)
      case atStart => exact ⟨0, [], by omega, rfl, HR0, Lib.hid rfl, Lib.hid (by simp)⟩
      case round =>
        clear HR0
        obtain ⟨i, ys, hi, rfl, HR, HM, HN⟩ := hrel
        by_cases hlt : i < ms.length
        · obtain ⟨ab, ao, rfl, hblk, hcell⟩ := HT.out.at_ (k := i) (fun _ => rfl) hlt
          have i0 : (0 : Int) ≤ (i : Int) := by omega
          have i1' : (i : Int) < (ms.length : Int) := by omega
          have hbw : Below w.heap.size w wr := HR.out.hw
          have c0 := (hbw.cell (p := ⟨ab, ao + i * 3, none⟩) hblk).trans (hcell 0 _ rfl)
          have c1 := (hbw.cell (p := ⟨ab, ao + i * 3 + 1, none⟩) hblk).trans (hcell 1 _ rfl)
          have c2 := (hbw.cell (p := ⟨ab, ao + i * 3 + 2, none⟩) hblk).trans (hcell 2 _ rfl)
          obtain ⟨x, hx⟩ : ∃ x, x = ms[i] := ⟨_, rfl⟩
          have hxm : x ∈ ms := by rw [hx]; exact List.getElem_mem hlt
          rw [← hx] at c0 c1 c2
          have HTK : Hid (ms.take (i + 1) = ms.take i ++ [x]) := Lib.hid (by rw [List.take_succ_eq_append_getElem hlt, ← hx])
          have hlx := HE.out x hxm
          obtain ⟨la, hla⟩ : ∃ q, q = largeB x.m := ⟨_, rfl⟩
          have HLG : Hid (∀ W, Below w.heap.size w W → Calls Try.prog 11 #[.agg #[.int .i64 x.kind, .slice x.a x.rows.length x.c, .int .i64 x.after]] W fun e w' => e = .returned (.bool la) ∧ Below W.heap.size W w') := Lib.hid fun W hW => by rw [hla]; exact llarge_any x W ((hlx.1.below hW).more hW.size)
          cases la with
          | true =>
            have hw := hbw
            clear hbw hcell hx hlx hla
            go_wp2_with (first | (go_at_call 11; (with_reducible refine (HLG.out _ hw).mono ?_); rintro _ w1 ⟨rfl, hb1⟩; have hw := bl2 hw hb1) | (go_at_call 12; refine (known_any _).mono ?_; rintro _ w9 ⟨rfl, hb9⟩; have hw := bl2 hw hb9) | fail)
            go_ret
            exact ⟨rfl, hw⟩
          | false =>
            have HLA : Hid (largeB x.m = false) := Lib.hid hla.symm
            have HOW : Hid (∀ W, Below w.heap.size w W → Calls Try.prog 14 #[.agg #[.int .i64 x.kind, .slice x.a x.rows.length x.c, .int .i64 x.after]] W fun e w' => ∃ y : Md, e = .returned (.agg #[.int .i64 y.kind, .slice y.a y.rows.length y.c, .int .i64 y.after]) ∧ y.m = x.m ∧ y.reads w' w'.heap.size ∧ MdHi W.heap.size y ∧ Below W.heap.size W w') := Lib.hid fun W hW => lownH_any x W (not_large ((hlx.1.below hW).more hW.size) hla.symm) hlx.2
            have hw := hbw
            have hb : Below wr.heap.size wr wr := Below.refl _ _
            clear hbw hcell hx hlx hla
            have hzz := hw.size
            go_upto_region 9 with (first | (go_at_call 11; (with_reducible refine (HLG.out _ hw).mono ?_); rintro _ w1 ⟨rfl, hb1⟩; have c0 := (hb1.cell (p := ⟨ab, ao + i * 3, none⟩) (by show ab < _; omega)).trans c0; have c1 := (hb1.cell (p := ⟨ab, ao + i * 3 + 1, none⟩) (by show ab < _; omega)).trans c1; have c2 := (hb1.cell (p := ⟨ab, ao + i * 3 + 2, none⟩) (by show ab < _; omega)).trans c2; have hw := bl2 hw hb1; have hb := bl2 hb hb1) | fail)
            have HR1 := Lib.hid (HR.out.below hb)
            have HYL : Hid (ys.length ≤ 24) := Lib.hid (by have h9 := congrArg List.length HM.out; simp at h9; have := HMN.out; omega)
            have hyl := HYL.out
            have hzz := hw.size
            clear HR hb HT HE HLG
            go_wp2_with (first | (go_at_call 14; (refine (HOW.out _ hw).mono ?_; rintro _ w2 ⟨y, rfl, hy, hyr, hyh, hb2⟩; have hz2 := hb2.size)) | (at_builtin; go_loud (refine wpList_append_own_at _ rfl _ _ 41 rfl w.heap.size 25 i1 (.agg #[.int .i64 0, .slice none 0 0, .int .i64 0]) 3 40 uModelsL hi1 iy0 iy1 iy2 rfl (by decide) _ _ _ rfl ((HR1.out.below hb2).own.alloc _) ⟨w2.heap.size, 0, none⟩ 1 1 [.int .i64 y.kind, .slice y.a y.rows.length y.c, .int .i64 y.after] rfl rfl (World.news_of_block (cs := #[.int .i64 y.kind, .slice y.a y.rows.length y.c, .int .i64 y.after]) (t := 25) (fr := (0, 0)) (heap_alloc_new w2 _)) (by simp [Value.oneCell']) (by unfold maxLen; omega) (by omega) (by simp; omega) ?_); intro v' w5 hown5 hgrow5 _ hat5; refine Hid.out ?_))
            have hal : Below w2.heap.size w2 (w2.alloc (.cells #[.int .i64 y.kind, .slice y.a y.rows.length y.c, .int .i64 y.after] 25)) := (Below.refl _ _).alloc (Nat.le_refl _) _
            have HR5 : Hid (RlI w v' (ys ++ [y]) w5) := Lib.hid (((HR1.out.below hb2).below hal).app ((hyr.below hal).more hal.size) hyh (fun r hr => (HR1.out.own.lt r hr).2) hgrow5 hown5 hat5)
            have HY := Lib.hid hy
            clear hown5 hgrow5 hat5 hal hyr hyh hb2 hy HR1 c0 c1 c2 HOW
            refine Lib.hid ?_
            go_wp2_with fail
            refine ⟨⟨i + 1, ys ++ [y], by omega, by go_num, HR5, Lib.hid ?_, Lib.hid ?_⟩, by simp [intOf]; omega⟩
            · rw [List.map_append, HM.out, HTK.out, List.map_append, List.map_singleton, List.map_singleton, HY.out]
            · intro q hq
              rw [HTK.out, List.mem_append, List.mem_singleton] at hq
              rcases hq with hq | rfl
              · exact HN.out q hq
              · exact HLA.out
        · obtain rfl : i = ms.length := by omega
          have hm : ys.map Md.m = ms.map Md.m := by have := HM.out; rwa [List.take_length] at this
          have hn : ∀ x ∈ ms, largeB x.m = false := by have := HN.out; rwa [List.take_length] at this
          have hyl : ys.length = ms.length := by have := congrArg List.length hm; simpa using this
          obtain ⟨A1, c1, e1, hmd⟩ := HR.out.mds
          rw [hyl] at e1
          subst e1
          have hll := HLL.out
          obtain ⟨⟨rl, re⟩, hrr⟩ : ∃ q, q = hrankR (ms.map Md.m) l := ⟨_, rfl⟩
          have HRK : Hid (∀ W, Below wr.heap.size wr W → ∀ B k, Sl intCell 1 W W.heap.size B l → Calls Try.prog 37 #[.slice A1 ms.length c1, .slice B l.length k] W (RetSlE rl re W)) := Lib.hid fun W hW B k hB => by
            have := hrank_any A1 c1 ys B k l W (by omega) (by omega) ((hmd.below hW).more hW.size) hB
            rw [hm, ← hrr, hyl] at this; exact this
          have HIN := Lib.hid (fun W (hW : Below w.heap.size w W) => lints_any lA lc l.length l W rfl (by omega) HLN.out ((HL.out.below hW).more hW.size))
          have hMs : ∀ W, Below w.heap.size w W → Mds W W.heap.size mA ms := fun W hW => ⟨(HT.out.below hW).more hW.size, fun x hx => not_large (((HE.out x hx).1.below hW).more hW.size) (hn x hx)⟩
          obtain ⟨er, her⟩ : ∃ q, q = regsE (ms.map Md.m) l := ⟨_, rfl⟩
          have HRG : Hid (∀ W, Below w.heap.size w W → Calls Try.prog 17 #[.slice mA ms.length mc, .slice lA l.length lc] W fun e w' => e = .returned (.int .i64 er) ∧ Below W.heap.size W w') := Lib.hid fun W hW => by
            rw [her]; exact rreg_any lA lc l mA mc ms W (by omega) (by omega) ((HL.out.below hW).more hW.size) (hMs W hW)
          have hw := HR.out.hw
          have hb : Below wr.heap.size wr wr := Below.refl _ _
          have HMD := Lib.hid hMs
          have HER := Lib.hid her; have HRR := Lib.hid hrr
          clear hm hn hmd hMs her hrr hyl HR HM HN HT HE
          rcases d12 with ⟨d20, dn⟩ | ⟨d20, dn⟩
          · by_cases h0 : er = 0
            · obtain ⟨hrl, rfl⟩ : rl = rkL (ms.map Md.m) l ∧ re = 0 := by
                have h9 := HRR.out
                unfold hrankR at h9
                rw [if_neg (by rw [List.length_map]; omega), if_pos (by rw [← HER.out]; exact h0)] at h9
                exact ⟨(Prod.mk.inj h9).1, (Prod.mk.inj h9).2⟩
              have HRF : Hid (∀ W, Below w.heap.size w W → Calls Try.prog 38 #[.slice mA ms.length mc, .slice lA l.length lc] W fun e w' => ∃ A c, e = .returned (.slice A rl.length c) ∧ Sl intCell 1 w' w'.heap.size A rl ∧ Below W.heap.size W w') := Lib.hid fun W hW => by
                rw [hrl]
                exact rrank_any mA mc ms lA lc l W (by omega) (by omega) (fun m hm => ⟨(regs_all (by rw [← HER.out]; exact h0) m hm).1, (regs_all (by rw [← HER.out]; exact h0) m hm).2.1⟩) (HMD.out W hW) ((HL.out.below hW).more hW.size)
              have HRN : Hid (rl.length ≤ 1000000) := Lib.hid (by rw [hrl, rkL_len, List.length_map]; omega)
              subst h0
              clear HRR HER hrl HMD
              go_wp2_with (first | (go_at_call 15; go_loud (with_reducible refine (HIN.out _ hw).mono ?_); rintro _ w2 ⟨B, k, rfl, hs, -, -, -, hb2⟩; have hw := bl2 hw hb2; have hb := bl2 hb hb2) | (go_at_call 37; (with_reducible refine (HRK.out _ hb _ _ hs).mono ?_); rintro _ w3 ⟨A3, c3, rfl, hs3, -, hb3⟩; have hw := bl2 hw hb3; have HS := Lib.hid hs3; clear hs3) | (go_at_call 17; (with_reducible refine (HRG.out _ hw).mono ?_); rintro _ w4 ⟨rfl, hb4⟩; have hw := bl2 hw hb4; have HS := Lib.hid ((HS.out.below hb4).more hb4.size)) | (go_at_call 38; (with_reducible refine (HRF.out _ hw).mono ?_); rintro _ w5 ⟨A5, c5, rfl, hs5, hb5⟩; have hw := bl2 hw hb5; have HS := Lib.hid ((HS.out.below hb5).more hb5.size); have HS5 := Lib.hid hs5; clear hs5) | (go_at_call 31; refine (lsame_eq _ _ _ _ _ _ rl _ rfl rfl HRN.out HS.out HS5.out).mono ?_; rintro _ w6 ⟨rfl, hb6⟩; have hw := bl2 hw hb6) | (go_at_call 12; refine (known_any _).mono ?_; rintro _ w9 ⟨rfl, hb9⟩; have hw := bl2 hw hb9) | fail)
              go_ret
              exact ⟨rfl, hw⟩
            · obtain ⟨rfl, rfl⟩ : rl = [] ∧ er = re := by
                have h9 := HRR.out
                unfold hrankR at h9
                rw [if_neg (by rw [List.length_map]; omega), if_neg (by rw [← HER.out]; exact h0), ← HER.out] at h9
                exact ⟨(Prod.mk.inj h9).1, (Prod.mk.inj h9).2.symm⟩
              have q5 : (er != 0) = true := by simp; exact h0
              have q6 : (er == 0) = false := by simp; exact h0
              clear h0 HRR HER HMD
              go_wp2_with (first | (go_at_call 15; go_loud (with_reducible refine (HIN.out _ hw).mono ?_); rintro _ w2 ⟨B, k, rfl, hs, -, -, -, hb2⟩; have hw := bl2 hw hb2; have hb := bl2 hb hb2) | (go_at_call 37; (with_reducible refine (HRK.out _ hb _ _ hs).mono ?_); rintro _ w3 ⟨A3, c3, rfl, hs3, -, hb3⟩; have hw := bl2 hw hb3; have HS := Lib.hid hs3; clear hs3) | (go_at_call 17; (with_reducible refine (HRG.out _ hw).mono ?_); rintro _ w4 ⟨rfl, hb4⟩; have hw := bl2 hw hb4; have HS := Lib.hid ((HS.out.below hb4).more hb4.size)) | (go_at_call 12; refine (known_any _).mono ?_; rintro _ w9 ⟨rfl, hb9⟩; have hw := bl2 hw hb9) | fail)
              go_ret
              exact ⟨rfl, hw⟩
          · obtain ⟨rfl, rfl⟩ : rl = [] ∧ re = 5 := by
              have h9 := HRR.out
              unfold hrankR at h9
              rw [if_pos (by rw [List.length_map]; exact dn)] at h9
              exact ⟨(Prod.mk.inj h9).1, (Prod.mk.inj h9).2⟩
            clear HRR HER
            go_wp2_with (first | (go_at_call 15; go_loud (with_reducible refine (HIN.out _ hw).mono ?_); rintro _ w2 ⟨B, k, rfl, hs, -, -, -, hb2⟩; have hw := bl2 hw hb2; have hb := bl2 hb hb2) | (go_at_call 37; (with_reducible refine (HRK.out _ hb _ _ hs).mono ?_); rintro _ w3 ⟨A3, c3, rfl, hs3, -, hb3⟩; have hw := bl2 hw hb3; have HS := Lib.hid hs3; clear hs3) | (go_at_call 17; (with_reducible refine (HRG.out _ hw).mono ?_); rintro _ w4 ⟨rfl, hb4⟩; have hw := bl2 hw hb4; have HS := Lib.hid ((HS.out.below hb4).more hb4.size)) | (go_at_call 12; refine (known_any _).mono ?_; rintro _ w9 ⟨rfl, hb9⟩; have hw := bl2 hw hb9) | fail)
            go_ret
            exact ⟨rfl, hw⟩
end Go.Proofs.Ytiikkcifdhcejaa

/- The walk of the law OddsMaps. -/
import Derived.Test.YtmfbiohdmhbkoaaHe
import Derived.Test.YtmfbiohdmhbkoaaRe
import Derived.Test.YtmfbiohdmhbkoaaLb
namespace Go.Proofs.Ytmfbiohdmhbkoaa
open Go.RowKit

theorem mapR_len (l tl : List Int) (n : Int) : (mapR l tl n).1.length ≤ 4096 := by
  unfold mapR
  split
  · simp
  · split
    · simp
    · split
      · simp
      · show (mapTo l tl n.toNat l.length).length ≤ 4096
        rw [mapTo_len]; omega
set_option maxRecDepth 100000 in
set_option maxHeartbeats 8000000 in
theorem lwmaps_any (A A2 : Option Addr) (c c2 : Nat) (l tl : List Int) (n v : Int) (w : World) (hz : A = none → c = 0) (hz2 : A2 = none → c2 = 0) (hr : Sl intCell 1 w w.heap.size A l) (hr2 : Sl intCell 1 w w.heap.size A2 tl) :
    Calls Try.prog 7 #[.slice A l.length c, .slice A2 tl.length c2, .agg #[.int .i64 n, .int .i64 v]] w fun e w' => e = .returned (.bool true) ∧ Below w.heap.size w w' := by
  have hLl := mapR_len l tl n
  obtain ⟨⟨L, er⟩, hx⟩ : ∃ x, mapR l tl n = x := ⟨_, rfl⟩
  have HF := Lib.hid hx
  rw [hx] at hLl
  replace hLl : L.length ≤ 4096 := hLl
  obtain ⟨⟨pk, pe⟩, hp⟩ : ∃ x, pickR l v = x := ⟨_, rfl⟩
  have HP := Lib.hid hp
  have HR := Lib.hid hr; have HR2 := Lib.hid hr2
  clear hx hr hr2 hp
  by_cases hlg : longB l.length = true
  · have HLG := Lib.hid hlg
    clear hlg
    go_enter Try.func7, Try.ntmps7
    go_wp2_with (first | (go_at_call 15; refine (long_any A c l _).mono ?_; rw [HLG.out]; rintro _ _ ⟨rfl, rfl⟩) | (go_at_call 16; refine (known_any _).mono ?_; rintro _ W1 ⟨rfl, hb1⟩))
    go_ret
    exact ⟨rfl, bl3 (Below.refl _ _) hb1⟩
  · simp only [Bool.not_eq_true] at hlg
    have hle := (longB_le hlg).1
    have HLG := Lib.hid hlg
    have hlen : l.length ≤ 1000000 := by omega
    clear hlg
    by_cases c1 : 400 < tl.length
    · have d1 : decide ((400 : Int) < (tl.length : Int)) = true := by simp; omega
      go_enter Try.func7, Try.ntmps7
      go_wp2_with (first | (go_at_call 15; refine (long_any A c l _).mono ?_; rw [HLG.out]; rintro _ _ ⟨rfl, rfl⟩) | (go_at_call 16; refine (known_any _).mono ?_; rintro _ W1 ⟨rfl, hb1⟩))
      go_ret
      exact ⟨rfl, bl3 (Below.refl _ _) hb1⟩
    · have d1 : decide ((400 : Int) < (tl.length : Int)) = false := by simp; omega
      have hlen2 : tl.length ≤ 1000000 := by omega
      go_enter Try.func7, Try.ntmps7
      go_upto_region 3 with (go_at_call 15; refine (long_any A c l _).mono ?_; rw [HLG.out]; rintro _ _ ⟨rfl, rfl⟩)
      refine gen_w (fun W => Blk W w.heap.size #[.int .i64 n, .int .i64 v] 39 ∧ Below w.heap.size w W) ⟨Blk.new _ _ _, by (repeat (first | exact Below.refl _ _ | assumption | (refine Below.alloc ?_ (by first | omega | (simp; omega) | (simp; done)) _) | (refine Below.setCell ?_ (by first | omega | (simp; omega) | (simp; done)) _) | (refine Below.drew ?_) | (refine belowN ?_ _) | (refine Below.trans ?_ (Below.mono ‹Below _ _ _› (by first | omega | (simp; omega) | (simp; done))))))⟩ ?_
      rintro w0 ⟨gB, hw0⟩
      have c0 := gB.cell 0
      simp at c0
      have HRa := Lib.hid ((HR.out.below hw0).more hw0.size)
      have HRb := Lib.hid ((HR2.out.below hw0).more hw0.size)
      go_cut [7, 8] (fun s7 s8 wx => ∃ A c, s7 = .slice A L.length c ∧ s8 = .int .i64 er ∧ Sl intCell 1 wx wx.heap.size A L ∧ Below w0.heap.size w0 wx)
      case first =>
        as_aux_lemma =>
          go_region_held (fun W' => W'.cell? ⟨w.heap.size, 0, none⟩ = some (.int .i64 n)) (first | exact c0 | go_keep)
            (first |
              (go_at_call 25; (with_reducible refine (map_any B1 B2 e1 e2 l tl n w2 (by omega) hlen2 ((hs1.below hb2).more hb2.size) hs2).mono ?_); rw [HF.out]; rintro _ w3 ⟨B3, e3, rfl, hs3, -, hb3⟩; have hy3 : Below w0.heap.size w0 w3 := bl2 hy2 hb3; have gB3 := gB.below hy3 gB.lt; have c0 := gB3.cell 0; simp at c0) |
              (go_at_call 18; have _ := hb1; (with_reducible refine (own_any A2 c2 tl w1 hlen2 hz2 ((HRb.out.below hy1).more hy1.size)).mono ?_); rintro _ w2 ⟨B2, e2, rfl, hs2, -, hb2⟩; have hy2 : Below w0.heap.size w0 w2 := bl2 hy1 hb2; have gB2 := gB.below hy2 gB.lt; have c0 := gB2.cell 0; simp at c0) |
              (go_at_call 18; (with_reducible refine (own_any A c l _ hlen hz ((HRa.out.below (by (repeat (first | exact Below.refl _ _ | assumption | (refine Below.alloc ?_ (by first | omega | (simp; omega) | (simp; done)) _) | (refine Below.setCell ?_ (by first | omega | (simp; omega) | (simp; done)) _) | (refine Below.drew ?_) | (refine belowN ?_ _) | (refine Below.trans ?_ (Below.mono ‹Below _ _ _› (by first | omega | (simp; omega) | (simp; done)))))))).more (by first | omega | (simp; omega) | (simp; done)))).mono ?_); rintro _ w1 ⟨B1, e1, rfl, hs1, -, hb1⟩; have hy1 : Below w0.heap.size w0 w1 := Below.trans (by (repeat (first | exact Below.refl _ _ | assumption | (refine Below.alloc ?_ (by first | omega | (simp; omega) | (simp; done)) _) | (refine Below.setCell ?_ (by first | omega | (simp; omega) | (simp; done)) _) | (refine Below.drew ?_) | (refine belowN ?_ _) | (refine Below.trans ?_ (Below.mono ‹Below _ _ _› (by first | omega | (simp; omega) | (simp; done))))))) (hb1.mono (by simp)); have gB1 := gB.below hy1 gB.lt; have c0 := gB1.cell 0; simp at c0))
          all_goals (
            go_wp2_with fail
            go_meet
            exact ⟨_, _, rfl, rfl, hs3, hy3⟩)
      case rest =>
        obtain ⟨A3, c3, rfl, rfl, hs3, hcx⟩ := hcut
        rename World => w5
        have hw5 := bl2 hw0 hcx
        have HS5 := Lib.hid hs3
        have gB5 := gB.below hcx gB.lt
        have HRc := Lib.hid ((HRa.out.below hcx).more hcx.size)
        clear hs3 hcx c0 gB HRa HRb
        go_upto_region 4 with fail
        have c1 := gB5.cell 1
        simp at c1
        go_cut [9, 10] (fun s9 s10 wx => s9 = .int .i64 pk ∧ s10 = .int .i64 pe ∧ Below w5.heap.size w5 wx)
        case first =>
          as_aux_lemma =>
            go_region_held (fun W' => W'.cell? ⟨w.heap.size, 1, none⟩ = some (.int .i64 v)) (first | exact c1 | go_keep)
              (first |
                (go_at_call 26; (with_reducible refine (pick_any B1 e1 l v w1 (by omega) hs1).mono ?_); rw [HP.out]; rintro _ w2 ⟨rfl, hb2⟩; have hy2 : Below w5.heap.size w5 w2 := bl2 hy1 hb2; have gB2 := gB5.below hy2 gB5.lt; have c1 := gB2.cell 1; simp at c1) |
                (go_at_call 18; (with_reducible refine (own_any A c l _ hlen hz ((HRc.out.below (by (repeat (first | exact Below.refl _ _ | assumption | (refine Below.alloc ?_ (by first | omega | (simp; omega) | (simp; done)) _) | (refine Below.setCell ?_ (by first | omega | (simp; omega) | (simp; done)) _) | (refine Below.drew ?_) | (refine belowN ?_ _) | (refine Below.trans ?_ (Below.mono ‹Below _ _ _› (by first | omega | (simp; omega) | (simp; done)))))))).more (by first | omega | (simp; omega) | (simp; done)))).mono ?_); rintro _ w1 ⟨B1, e1, rfl, hs1, -, hb1⟩; have hy1 : Below w5.heap.size w5 w1 := Below.trans (by (repeat (first | exact Below.refl _ _ | assumption | (refine Below.alloc ?_ (by first | omega | (simp; omega) | (simp; done)) _) | (refine Below.setCell ?_ (by first | omega | (simp; omega) | (simp; done)) _) | (refine Below.drew ?_) | (refine belowN ?_ _) | (refine Below.trans ?_ (Below.mono ‹Below _ _ _› (by first | omega | (simp; omega) | (simp; done))))))) (hb1.mono (by simp)); have gB1 := gB5.below hy1 gB5.lt; have c1 := gB1.cell 1; simp at c1))
            all_goals (
              go_wp2_with fail
              go_meet
              exact ⟨rfl, rfl, hy2⟩)
        case rest =>
          obtain ⟨rfl, rfl, hcx⟩ := hcut
          rename World => w6
          have hw6 := bl2 hw5 hcx
          have gB6 := gB5.below hcx gB5.lt
          have HS6 := Lib.hid ((HS5.out.below hcx).more hcx.size)
          have HR6 := Lib.hid ((HR.out.below hw6).more hw6.size)
          have HT6 := Lib.hid ((HR2.out.below hw6).more hw6.size)
          have c0 := gB6.cell 0
          simp at c0
          clear hcx c1 gB5 HS5 HRc
          refine Hid.out ?_
          refine Lib.hid ?_
          go_wp2_with (go_at_call 27; refine (rmap_any A A2 c c2 l tl n w6 HR6.out HT6.out).mono ?_; rw [HF.out]; rintro _ w7 ⟨A7, c7, rfl, hs7, -, hb7⟩; refine Hid.out ?_)
          have gB7 := gB6.below hb7 gB6.lt
          have HS7 := Lib.hid ((HS6.out.below hb7).more hb7.size)
          have HK7 := Lib.hid hs7
          have HR7 := Lib.hid ((HR6.out.below hb7).more hb7.size)
          have hw7 := bl2 hw6 hb7
          have c1 := gB7.cell 1
          simp at c1
          clear hb7 hs7 c0 HS6
          refine Lib.hid ?_
          go_wp2_with (go_at_call 28; refine (rpick_any A c l v w7 HR7.out).mono ?_; rw [HP.out]; rintro _ w8 ⟨rfl, hb8⟩; refine Hid.out ?_)
          have HS8 := Lib.hid ((HS7.out.below hb8).more hb8.size)
          have HK8 := Lib.hid ((HK7.out.below hb8).more hb8.size)
          have hw8 := bl2 hw7 hb8
          clear hb8 c1
          refine Lib.hid ?_
          go_wp2_with (first | (go_at_call 20; refine (requal_any A3 A7 c3 c7 L L w8 (by omega) HS8.out HK8.out).mono ?_; rw [beq_self_eq_true]; rintro _ w9 ⟨rfl, hb9⟩) | (go_at_call 16; refine (known_any _).mono ?_; rintro _ w10 ⟨rfl, hb10⟩))
          go_ret
          exact ⟨rfl, bl2 (bl2 hw8 hb9) hb10⟩
end Go.Proofs.Ytmfbiohdmhbkoaa

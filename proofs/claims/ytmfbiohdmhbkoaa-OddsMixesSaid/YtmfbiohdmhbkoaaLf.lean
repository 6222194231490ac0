/- The walk of the law OddsMixes. -/
import Derived.Test.YtmfbiohdmhbkoaaLb
import Derived.Test.YtmfbiohdmhbkoaaRj
namespace Go.Proofs.Ytmfbiohdmhbkoaa
open Go.RowKit

theorem infoInts : (Try.prog.info? 22).map (fun i => (i.zero, i.size, i.bytes)) = some (some (.slice none 0 0), 1, 24) := by kernel_rfl
theorem uIntss : Try.prog.underlying 31 = some (.slice 22) := by kernel_rfl
theorem ownsRow_apart' {W : World} {b b' s s' n n' : Nat} {e e' : TypeId} {v v' : Value} {xs xs' : List Value} (h : W.ownsRow b e s v n xs) (h' : W.ownsRow b' e' s' v' n' xs') (hne : e ≠ e') : v.ownBlock = none ∨ v.ownBlock ≠ v'.ownBlock := by
  rcases h.2 with ⟨rfl, _⟩ | ⟨g, cap, cur, rfl, _, hg, _⟩
  · exact .inl rfl
  · rcases h'.2 with ⟨rfl, _⟩ | ⟨g', cap', cur', rfl, _, hg', _⟩
    · right; simp [Value.ownBlock]
    · right
      simp only [Value.ownBlock, ne_eq, Option.some.injEq]
      rintro rfl
      rw [hg] at hg'; cases hg'; exact hne rfl
/-- a list of lists whose list is a row of its own -/
def RowL (W : World) (q : LL) : Prop := W.ownsRow 0 3 1 q.val q.l.length (flat intCell q.l)
theorem row_below' {W W' : World} {base n s : Nat} {e : TypeId} {v : Value} {xs : List Value} (h : W.ownsRow base e s v n xs) (hb : Below W.heap.size W W') : W'.ownsRow base e s v n xs :=
  World.ownsRow.kept h (row := none) ⟨hb.os, hb.tape, hb.output, hb.size, fun k hk _ => hb.block k hk⟩ (by
    cases hv : v.ownBlock with
    | none => exact .inl rfl
    | some g => exact .inr (fun e => nomatch e))
theorem row_zero {W : World} {base n s : Nat} {e : TypeId} {v : Value} {xs : List Value} (h : W.ownsRow base e s v n xs) : W.ownsRow 0 e s v n xs := by
  refine ⟨h.1, ?_⟩
  rcases h.2 with h | ⟨g, cap, cur, hv, _, hr⟩
  · exact .inl h
  · exact .inr ⟨g, cap, cur, hv, by omega, hr⟩
theorem RowL.sl {W : World} {q : LL} (h : RowL W q) : Sl intCell 1 W W.heap.size q.a q.l := by
  obtain ⟨A, c, hv, hs⟩ := Sl.of_own h
  cases hv
  exact hs
theorem errsW_cong : ∀ {a b : List LL}, a.map LL.l = b.map LL.l → errsW a = errsW b
  | [], [], _ => rfl
  | [], y :: b, h => by cases h
  | x :: a, [], h => by cases h
  | x :: a, y :: b, h => by
    simp only [List.map_cons, List.cons.injEq] at h
    simp only [errsW, h.1, errsW_cong h.2]
theorem mixR_len (cs : List Int) (L : List (List Int)) (el : Int) (hl : (L.getD 0 []).length ≤ 1000000) : (mixR cs L el).1.length ≤ 1000000 := by
  unfold mixR
  split
  · simp
  · split
    · simp
    · split
      · simp
      · split
        · simp
        · split
          · simp
          · split
            · simp
            · show (lowL _).length ≤ 1000000
              rw [lowL_len, mixO_len]; exact hl
set_option maxRecDepth 100000 in
set_option maxHeartbeats 8000000 in
theorem lwmixes_any (A B : Option Addr) (c d : Nat) (cs : List Int) (ls : List LL) (w : World) (hz : A = none → c = 0) (hz2 : ∀ x ∈ ls, x.a = none → x.c = 0) (hr : Sl intCell 1 w w.heap.size A cs) (hrl : Lists w w.heap.size B ls) :
    Calls Try.prog 4 #[.slice A cs.length c, .slice B ls.length d] w fun e w' => e = .returned (.bool true) ∧ Below w.heap.size w w' := by
  obtain ⟨i1, hi1, iy0, iy1, iy2⟩ := info_parts infoInts
  have HR := Lib.hid hr; have HRL := Lib.hid hrl; have HZ2 := Lib.hid hz2
  clear hr hrl hz2
  by_cases c1 : 30 < cs.length
  · have d1 : decide ((30 : Int) < (cs.length : Int)) = true := by simp; omega
    go_enter Try.func4, Try.ntmps4
    go_wp2_with (go_at_call 16; refine (known_any _).mono ?_; rintro _ W1 ⟨rfl, hb1⟩)
    go_ret
    exact ⟨rfl, hb1⟩
  · have d1 : decide ((30 : Int) < (cs.length : Int)) = false := by simp; omega
    by_cases c2 : 30 < ls.length
    · have d2 : decide ((30 : Int) < (ls.length : Int)) = true := by simp; omega
      go_enter Try.func4, Try.ntmps4
      go_wp2_with (go_at_call 16; refine (known_any _).mono ?_; rintro _ W1 ⟨rfl, hb1⟩)
      go_ret
      exact ⟨rfl, hb1⟩
    · have d2 : decide ((30 : Int) < (ls.length : Int)) = false := by simp; omega
      have hcl : cs.length ≤ 30 := by omega
      have hll : ls.length ≤ 30 := by omega
      clear c1 c2
      go_enter Try.func4, Try.ntmps4
      go_wp2
      refine gen_w (fun W => Below w.heap.size w W ∧ W.ownsRow w.heap.size 22 1 (.slice (some ⟨w.heap.size, 0, none⟩) 0 0) 0 []) ⟨by (repeat (first | exact Below.refl _ _ | assumption | (refine Below.alloc ?_ (by first | omega | (simp; omega) | (simp; done)) _) | (refine Below.setCell ?_ (by first | omega | (simp; omega) | (simp; done)) _) | (refine Below.drew ?_) | (refine belowN ?_ _) | (refine Below.trans ?_ (Below.mono ‹Below _ _ _› (by first | omega | (simp; omega) | (simp; done)))))), by simpa using World.ownsRow_made (e := 22) (size := 1) w #[] 0 (base := w.heap.size) (by simp) (by simp) (by simp)⟩ ?_
      rintro w0 ⟨hbw, hown0⟩
      have HO0 := Lib.hid hown0
      clear hown0
      go_loopw [5, 6] (fun v i wr => ∃ (j : Nat) (l : List LL), j ≤ ls.length ∧ i = .int .i64 j ∧ Hid (l.length = j) ∧ Hid (wr.ownsRow w.heap.size 22 1 v l.length (flat LL.cells l)) ∧ Hid (∀ r ∈ l, RowL wr r) ∧ Hid (l.map LL.l = (ls.take j).map LL.l) ∧ Hid (∀ x ∈ ls.take j, longB x.l.length = false) ∧ Hid (Below w.heap.size w wr)) (fun _ i _ => ls.length - (intOf i).toNat)
      case atStart => exact ⟨0, [], by omega, rfl, rfl, HO0, (fun r hr => by cases hr), rfl, (fun x hx => by simp at hx), hbw⟩
      case round =>
        obtain ⟨j, l, hj, rfl, hlj, hown, hrows, hpl, hlo, hbr⟩ := hrel
        by_cases hlt : j < ls.length
        · obtain ⟨ab, ao, rfl, hblk, hlc, hlr⟩ := (HRL.out.below hbr.out).at_ hlt
          have hsz := hbr.out.size
          have hn0 := HZ2.out _ (List.getElem_mem hlt)
          have HTK := Lib.hid (List.take_succ_eq_append_getElem hlt)
          obtain ⟨x, hx⟩ : ∃ t, t = ls[j] := ⟨_, rfl⟩
          rw [← hx] at hlc hlr hn0 HTK
          have hj0 : (0 : Int) ≤ (j : Int) := by omega
          have hj1 : (j : Int) < (ls.length : Int) := by omega
          by_cases hlg : longB x.l.length = true
          · have HLG := Lib.hid hlg
            clear hlg hx
            go_wp2_with (first | (go_at_call 15; refine (long_any x.a x.c x.l _).mono ?_; rw [HLG.out]; rintro _ _ ⟨rfl, rfl⟩) | (go_at_call 16; refine (known_any _).mono ?_; rintro _ W1 ⟨rfl, hb1⟩))
            go_ret
            exact ⟨rfl, bl2 hbr.out hb1⟩
          · simp only [Bool.not_eq_true] at hlg
            have hxl := (longB_le hlg).1
            have HLG := Lib.hid hlg
            have HOW0 := Lib.hid (own0_any x.a x.c x.l wr (by omega) hn0 (by rw [flat_int]; intro u hu; obtain ⟨y, _, rfl⟩ := List.mem_map.1 hu; rfl) (hlr.more hsz))
            clear hlg hx hlr hn0
            go_wp2_with (first | (go_at_call 15; refine (long_any x.a x.c x.l _).mono ?_; rw [HLG.out]; rintro _ _ ⟨rfl, rfl⟩) | (go_at_call 18; refine HOW0.out.mono ?_; rintro _ W2 ⟨v1, rfl, hown1, hb5⟩; refine Hid.out ?_))
            obtain ⟨A1, k1, hv1⟩ : ∃ A c, v1 = .slice A x.l.length c := (by obtain ⟨A, c, h, _⟩ := Sl.of_own hown1; exact ⟨A, c, h⟩)
            subst hv1
            have p2 : RowL W2 ⟨A1, k1, x.l⟩ := row_zero hown1
            have HP2 := Lib.hid p2
            have HOW := Lib.hid (row_below' hown.out hb5)
            have hol := hlj.out
            have HC5 : Hid (∀ (i : Nat) (u : Value), [Value.slice A1 x.l.length k1][i]? = some u → (W2.alloc (.cells #[.slice A1 x.l.length k1] 22)).cell? ((⟨W2.heap.size, 0, none⟩ : Addr).add i) = some u) := (fun i u hu => by
              rw [Go.WideShapes.add_plain, Nat.zero_add, (Blk.new W2 _ _).cell i, ← hu]; simp)
            have hz5 := hb5.size
            clear hown1 p2
            refine Lib.hid ?_
            go_wp2_with (at_builtin; refine wpList_append_own _ rfl _ _ 31 rfl w.heap.size 22 i1 (.slice none 0 0) 1 24 uIntss hi1 iy0 iy1 iy2 rfl (by decide) _ _ _ rfl (HOW.out.alloc _) ⟨W2.heap.size, 0, none⟩ 1 1 [.slice A1 x.l.length k1] rfl rfl HC5.out (by simp [Value.oneCell']) (by unfold maxLen; omega) (by omega) (by simp; omega) ?_; intro v' w5 hown5 hgrow _)
            have hb45 : Below w.heap.size wr w5 := ((hb5.mono (by omega)).alloc (by omega) _).grown hgrow (by simp; omega) (fun g hg => (hown.out.lt g hg).1)
            go_wp2
            go_roundw
            case rel =>
              refine ⟨j + 1, l ++ [⟨A1, k1, x.l⟩], by omega, by go_num, (by show _ = _; simp [hol]), (by show World.ownsRow _ _ _ _ _ _ _; simpa [flat, LL.cells, LL.val] using hown5), ?_, ?_, ?_, hbr.out.trans hb45⟩
              · show ∀ r ∈ _, _
                have hA : ∀ q : LL, RowL (W2.alloc (.cells #[.slice A1 x.l.length k1] 22)) q → RowL w5 q := fun q hq => World.ownsRow.kept hq hgrow (ownsRow_apart' hq (HOW.out.alloc (.cells #[.slice A1 x.l.length k1] 22)) (by decide))
                intro q hq
                rcases List.mem_append.1 hq with hq | hq
                · exact hA q (row_below' (row_below' (hrows.out q hq) hb5) ((Below.refl _ _).alloc (Nat.le_refl _) _))
                · obtain rfl : q = _ := by simpa using hq
                  exact hA _ (row_below' HP2.out ((Below.refl _ _).alloc (Nat.le_refl _) _))
              · show _ = _
                rw [HTK.out, List.map_append, List.map_append, hpl.out]; rfl
              · show ∀ y ∈ _, _
                intro y hy
                rw [HTK.out] at hy
                rcases List.mem_append.1 hy with h | h
                · exact hlo.out y h
                · rw [List.mem_singleton.1 h]; exact HLG.out
            case measure => simp [intOf]; omega
        · obtain rfl : j = ls.length := by omega
          obtain ⟨B1, d1', hv, hs⟩ := Sl.of_own hown.out
          subst hv
          have hlong : ∀ x ∈ ls, x.l.length ≤ 4200 := by
            have h := hlo.out
            rw [List.take_length] at h
            exact fun x hx => (longB_le (h x hx)).1
          have hpl' : l.map LL.l = ls.map LL.l := by have h := hpl.out; rw [List.take_length] at h; exact h
          have hLen := hlj.out
          have hLong : ∀ x ∈ l, x.l.length ≤ 4200 := fun x hx => by
            have h1 : x.l ∈ ls.map LL.l := by rw [← hpl']; exact List.mem_map.2 ⟨x, hx, rfl⟩
            obtain ⟨y, hy, e⟩ := List.mem_map.1 h1
            rw [← e]; exact hlong y hy
          have hLists : Lists wr wr.heap.size B1 l := ⟨hs, fun x hx => (hrows.out x hx).sl⟩
          have hMl := mixR_len cs (plL ls) (errsW ls) (by
            by_cases h0 : 0 < ls.length
            · rw [plL_get ls h0]; have := hlong _ (List.getElem_mem h0); omega
            · have : plL ls = [] := List.eq_nil_of_length_eq_zero (by rw [plL_len]; omega)
              rw [this]; simp)
          have eP : plL l = plL ls := hpl'
          have eE : errsW l = errsW ls := errsW_cong hpl'
          obtain ⟨⟨L, er⟩, hL⟩ : ∃ x, mixR cs (plL ls) (errsW ls) = x := ⟨_, rfl⟩
          have HM := Lib.hid hL
          rw [hL] at hMl
          replace hMl : L.length ≤ 1000000 := hMl
          have HLS := Lib.hid hLists
          have HEP := Lib.hid eP; have HEE := Lib.hid eE; have HLO := Lib.hid hLong; have HLO2 := Lib.hid hlong
          have HPL := Lib.hid hpl'; have HLN := Lib.hid hLen
          have hl1 : l.length ≤ 30 := by omega
          have hbr' := hbr.out
          have hl2 : l.length ≤ ls.length ∧ ls.length ≤ l.length := by omega
          obtain ⟨hl3, hl4⟩ := hl2
          clear hlong hpl' hLong hLists eP eE hL hs hown hrows hpl hlo hlj hLen
          have HRC := Lib.hid ((HR.out.below hbr').more hbr'.size)
          go_wp2_with (first | (go_at_call 18; refine (own_any A c cs wr (by omega) hz HRC.out).mono ?_; rintro _ W1 ⟨A1, c1, rfl, hs1, -, hb1⟩) | (go_at_call 21; refine (mix_any A1 B1 c1 d1' cs l W1 (by omega) (by omega) (fun x hx => by have := HLO.out x hx; omega) hs1 ((HLS.out.below hb1).more hb1.size)).mono ?_; rw [HEP.out, HEE.out, HM.out]; rintro _ W2 ⟨A2, c2, rfl, hs2, -, hb2⟩; refine Hid.out ?_))
          have hx2 := bl2 hb1 hb2
          have hw2 := bl2 hbr' hx2
          have HL2 := Lib.hid ((HLS.out.below hx2).more hx2.size)
          have HR2 := Lib.hid ((HR.out.below hw2).more hw2.size)
          have HRL2 := Lib.hid ((HRL.out.below hw2).more hw2.size)
          have HS2 := Lib.hid hs2
          clear hs1 hs2 hb1 hb2 hx2 HRC HLS
          refine Lib.hid ?_
          go_wp2_with (go_at_call 22; refine (rmix_any A B c d cs ls W2 (by omega) (fun x hx => by have := HLO2.out x hx; omega) HR2.out HRL2.out).mono ?_; rw [HM.out]; rintro _ W3 ⟨A3, c3, rfl, hs3, -, hb3⟩; refine Hid.out ?_)
          have hw3 := bl2 hw2 hb3
          have HL3 := Lib.hid ((HL2.out.below hb3).more hb3.size)
          have HRL3 := Lib.hid ((HRL2.out.below hb3).more hb3.size)
          have HS3 := Lib.hid ((HS2.out.below hb3).more hb3.size)
          have HK3 := Lib.hid hs3
          clear hs3 hb3 HL2 HRL2 HS2 HR2
          refine Lib.hid ?_
          go_wp2
          go_loopw [11] (fun i wq => ∃ k : Nat, k ≤ l.length ∧ i = .int .i64 k ∧ Below W3.heap.size W3 wq) (fun i _ => l.length - (intOf i).toNat)
          case atStart => exact ⟨0, by omega, rfl, Below.refl _ _⟩
          case round =>
            obtain ⟨k, hk, rfl, hbq⟩ := hrel
            by_cases hlt2 : k < l.length
            · have hk2 : k < ls.length := by omega
              obtain ⟨xb, xo, rfl, hxb, cx, sx⟩ := (HL3.out.below hbq).at_ hlt2
              obtain ⟨yb, yo, rfl, hyb, cy, sy⟩ := (HRL3.out.below hbq).at_ hk2
              have e : l[k].l = ls[k].l := by
                have h := congrArg (fun m => m[k]?) HPL.out
                simpa [hlt2, hk2] using h
              have hlo := HLO.out _ (List.getElem_mem hlt2)
              have HQ := Lib.hid (fun W (hW : Below wr.heap.size wr W) => requal_any l[k].a ls[k].a l[k].c ls[k].c l[k].l ls[k].l W (by omega) (((sx.more hbq.size).below hW).more hW.size) (((sy.more hbq.size).below hW).more hW.size))
              obtain ⟨x, hx⟩ : ∃ x, x = l[k] := ⟨_, rfl⟩
              obtain ⟨y, hy⟩ : ∃ x, x = ls[k] := ⟨_, rfl⟩
              rw [← hx] at cx
              rw [← hy] at cy
              rw [← hx, ← hy] at HQ
              rw [← hx, ← hy] at e
              rw [e, beq_self_eq_true] at HQ
              rw [e] at cx
              have hj0 : (0 : Int) ≤ (k : Int) := by omega
              have hj1 : (k : Int) < (l.length : Int) := by omega
              have hj2 : (k : Int) < (ls.length : Int) := by omega
              clear hx hy e sx sy hlo
              go_wp2
              (refine wp_region_ext (by kernel_rfl) (by kernel_rfl) ?_; (repeat (go_big_quiet_step((go_at_call 20; with_reducible exact Calls.ext_of (HQ.out _ (Grow.h _)))))); with_reducible refine wpQuiet_nil ?_; intro w9 hw9; have hb9 := ext_below hw9; clear hw9)
              go_wp2
              go_roundw
              case rel => exact ⟨k + 1, by omega, by go_num, bl2 hbq hb9⟩
              case measure => simp [intOf]; omega
            · obtain rfl : k = l.length := by omega
              have HS5 := Lib.hid ((HS3.out.below hbq).more hbq.size)
              have HK5 := Lib.hid ((HK3.out.below hbq).more hbq.size)
              have hwq := bl2 hw3 hbq
              go_wp2_with (first | (go_at_call 20; refine (requal_any A2 A3 c2 c3 L L wr (by omega) HS5.out HK5.out).mono ?_; rw [beq_self_eq_true]; rintro _ W6 ⟨rfl, hb6⟩) | (go_at_call 16; refine (known_any _).mono ?_; rintro _ W7 ⟨rfl, hb7⟩))
              go_ret
              exact ⟨rfl, bl2 (bl2 hwq hb6) hb7⟩
end Go.Proofs.Ytmfbiohdmhbkoaa

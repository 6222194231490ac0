/- habit: Change. -/
import Derived.Test.YtiikkcifdhcejaaWp
import Derived.Test.YtiikkcifdhcejaaHeldT
namespace Go.Proofs.Ytiikkcifdhcejaa
open Go.RowKit
attribute [local go_sem] Oper.semAt_some

set_option maxRecDepth 100000 in
set_option maxHeartbeats 4000000 in
theorem chgF_any (x y : Md) (l : List Int) (lA : Option Addr) (lc : Nat) (w : World) (hlen : l.length ≤ 1000000) (hlc : l.length ≤ lc) (hx : x.reads w w.heap.size) (hy : y.reads w w.heap.size) (hl : Sl intCell 1 w w.heap.size lA l) :
    Calls Try.prog 21 #[.agg #[.int .i64 x.kind, .slice x.a x.rows.length x.c, .int .i64 x.after], .agg #[.int .i64 y.kind, .slice y.a y.rows.length y.c, .int .i64 y.after], .slice lA l.length lc] w fun e w' => e = .returned (.tuple #[.int .i64 (chgR x.m y.m l).1, .int .i64 (chgR x.m y.m l).2]) ∧ Below w.heap.size w w' := by
  obtain ⟨er, her⟩ : ∃ e, e = regsE [x.m, y.m] l := ⟨_, rfl⟩
  have HC : Hid (∀ W, Below w.heap.size w W → ∀ b, Blk W b #[.int .i64 x.kind, .slice x.a x.rows.length x.c, .int .i64 x.after, .int .i64 y.kind, .slice y.a y.rows.length y.c, .int .i64 y.after] 25 → Calls Try.prog 40 #[.slice lA l.length lc, .slice (some ⟨b, 0, none⟩) 2 2] W fun e w' => e = .returned (.int .i64 er) ∧ Below W.heap.size W w') := Lib.hid fun W hW b hb => by
    rw [her]; exact checkR_any lA lc l (some ⟨b, 0, none⟩) 2 [x, y] W hlen (by simp) ((hl.below hW).more hW.size) (mds_two hb ((hx.below hW).more hW.size) ((hy.below hW).more hW.size))
  have HR := Lib.hid her
  have HX := Lib.hid hx; have HY := Lib.hid hy; have HL := Lib.hid hl
  clear hx hy hl her
  refine calls_marks Try.func21 rfl ?_
  simp only [Try.ntmps21, List.size_toArray, List.length_cons, List.length_nil, Nat.reduceAdd, Nat.reduceSub, Array.replicate_succ, Array.replicate_zero, List.push_toArray, List.append_toArray, List.nil_append, List.cons_append]
  go_upto_region 1 with fail
  obtain ⟨b3, hb3⟩ : ∃ b, b = w.heap.size := ⟨_, rfl⟩
  rw [← hb3]
  refine gen_w (fun W => b3 + 1 < W.heap.size ∧ Below w.heap.size w W ∧ Blk W b3 #[.int .i64 x.kind, .slice x.a x.rows.length x.c, .int .i64 x.after] 25 ∧ Blk W (b3 + 1) #[.int .i64 y.kind, .slice y.a y.rows.length y.c, .int .i64 y.after] 25) ⟨by simp [hb3], by (repeat (first | exact Below.refl _ _ | assumption | (refine Below.alloc ?_ (by first | omega | (simp; omega) | (simp; done)) _) | (refine Below.setCell ?_ (by first | omega | (simp; omega) | (simp; done)) _) | (refine Below.drew ?_) | (refine belowN ?_ _) | (refine Below.trans ?_ (Below.mono ‹Below _ _ _› (by first | omega | (simp; omega) | (simp; done)))))), (Blk.at_ hb3).alloc _, Blk.at_ (by simp [hb3])⟩ ?_
  rintro V ⟨hVz, hV, g1, g2⟩
  have hwb : w.heap.size ≤ b3 := by omega
  have d0 := g1.cell 0; have d1 := g1.cell 1; have d2 := g1.cell 2
  have k0 := g2.cell 0; have k1 := g2.cell 1; have k2 := g2.cell 2
  simp at d0 d1 d2 k0 k1 k2
  clear hb3
  by_cases h0 : er = 0
  · subst h0
    have hz := regs_zero HR.out.symm
    have hmx := hz.1 x.m (by simp)
    have hmy := hz.1 y.m (by simp)
    have hl4 := hz.2
    obtain ⟨ra, ta, hxa⟩ := Md.cons_of hmx.1
    obtain ⟨rb, tb, hyb⟩ := Md.cons_of hmy.1
    have HXA := Lib.hid hxa; have HYB := Lib.hid hyb; have HMX := Lib.hid hmx; have HMY := Lib.hid hmy
    clear hz hmx hmy hxa hyb
    go_wp2_with (first | (go_at_call 40; refine (HC.out _ (by (repeat (first | exact Below.refl _ _ | assumption | (refine Below.alloc ?_ (by first | omega | (simp; omega) | (simp; done)) _) | (refine Below.setCell ?_ (by first | omega | (simp; omega) | (simp; done)) _) | (refine Below.drew ?_) | (refine belowN ?_ _) | (refine Below.trans ?_ (Below.mono ‹Below _ _ _› (by first | omega | (simp; omega) | (simp; done))))))) _ (Blk.new V _ _)).mono ?_; rintro _ w1 ⟨rfl, hb1⟩; refine Hid.out ?_) | fail)
    have hb1V : Below V.heap.size V w1 := ((Below.refl _ V).alloc (Nat.le_refl _) _).trans (hb1.mono (by simp))
    have g1 := g1.below hb1V (by omega)
    have g2 := g2.below hb1V (by omega)
    have hV1 := bl2 hV hb1V
    have hVz : b3 + 1 < w1.heap.size := by have := hb1V.size; omega
    clear hb1 hb1V d0 d1 d2 k0 k1 k2 hV
    have hS : ∀ W, Below w1.heap.size w1 W → W.cell? ⟨b3, 0, none⟩ = some (.int .i64 x.kind) ∧ W.cell? ⟨b3, 1, none⟩ = some (.slice x.a x.rows.length x.c) ∧ W.cell? ⟨b3, 2, none⟩ = some (.int .i64 x.after) := fun W hW => by
      have g1 := g1.below hW g1.lt
      have d0 := g1.cell 0; have d1 := g1.cell 1; have d2 := g1.cell 2
      simp at d0 d1 d2
      exact ⟨d0, d1, d2⟩
    have HSX := Lib.hid (fun W (hW : Below w.heap.size w W) => startH_any x ra ta W ((HX.out.below hW).more hW.size) HXA.out HMX.out.1)
    refine Lib.hid ?_
    go_wp2_with fail
    refine' wp_region_plan 4 [3, 2, 1, 0] [.eff, .eff, .eff, .eff, .last, .post] [ScV 1 1 1 w1.heap.size, Det _, fun q W => ∃ h, q = hv x.kind h ∧ HandV x ra st0 h h (hv x.kind h) W ∧ w1.heap.size ≤ h, fun q W => ∃ b9, q = .pointer (some ⟨b9, 0, none⟩) ∧ Blk W b9 #[.slice none 0 0, .slice none 0 0] 79 ∧ w1.heap.size ≤ b9, noF, fun q W => ∃ h, q = hv x.kind h ∧ HandV x ra st0 h h (hv x.kind h) W ∧ w1.heap.size ≤ h] (by rfl) [(3, 9), (0, 25)] [(5, 10), (3, 9), (2, 27), (1, 26), (0, 25)] (by kernel_rfl) (by kernel_rfl) (by kernel_rfl) (by kernel_rfl) (by kernel_rfl) (by kernel_rfl) (by kernel_rfl) (by kernel_rfl) (by kernel_rfl) rfl ?hp ?hend ?hst
    case hp =>
      refine And.intro ⟨[], by kernel_rfl, fun xs W hW hf K hK => opV_free rfl ?_⟩ ?_
      · simp only [factsL, pickF, Det, and_true] at hf
        (try simp only [putL, Act.put, List.setIfInBounds_toArray, List.set_cons_zero, List.set_cons_succ])
        go_simp
        refine (scWhole_any _).mono ?_
        rintro _ w9 ⟨q, rfl, hq, hb9⟩
        exact ⟨_, rfl, hK.out _ _ hb9 (hq.mono hW.size)⟩
      refine And.intro ⟨[], by kernel_rfl, fun xs W hW hf K hK => opV_free rfl ?_⟩ ?_
      focus (have hs := hS W hW; (try simp only [factsL, pickF, Det, and_true] at hf); (try simp only [putL, Act.put, List.setIfInBounds_toArray, List.set_cons_zero, List.set_cons_succ]); (try simp only [hf]); go_simp; refine hK.out _ _ (Below.refl _ _) ?_; unfold Det; rfl)
      refine And.intro ⟨[(1, 26)], by kernel_rfl, fun xs W hW hf K hK => opV_free rfl ?_⟩ ?_
      · simp only [factsL, pickF, Det, and_true] at hf
        (try simp only [putL, Act.put, List.setIfInBounds_toArray, List.set_cons_zero, List.set_cons_succ])
        simp only [hf]
        go_simp
        refine (HSX.out _ (bl2 hV1 hW)).mono ?_
        rintro _ w9 ⟨v, h, rfl, hh, hge, hb9⟩
        obtain rfl := hh.val
        exact ⟨_, rfl, hK.out _ _ hb9 ⟨h, rfl, hh, Nat.le_trans hW.size hge⟩⟩
      refine And.intro ⟨[], by kernel_rfl, fun xs W hW hf K hK => opV_free rfl ?_⟩ ?_
      · simp only [factsL, pickF, Det, and_true] at hf
        (try simp only [putL, Act.put, List.setIfInBounds_toArray, List.set_cons_zero, List.set_cons_succ])
        go_simp
        exact hK.out _ _ ((Below.refl _ _).alloc (Nat.le_refl _) _) ⟨_, rfl, Blk.new _ _ _, hW.size⟩
      refine And.intro ⟨[(2, 27)], by kernel_rfl, fun xs W hW hf => ?_⟩ ?_
      · simp only [factsL, pickF, Det, and_true] at hf
        (try simp only [putL, Act.put, List.setIfInBounds_toArray, List.set_cons_zero, List.set_cons_succ])
        obtain ⟨h, hq, hh⟩ := hf
        refine ⟨hv x.kind h, ⟨h, rfl, hh⟩, yields_free rfl (fun w => ?_)⟩
        simp only [hq]
        go_simp
      trivial
    case hst => exact ⟨ScV.stays, det_stays, fun q W W' ⟨h, h1, h2, h3⟩ hb => ⟨h, h1, h2.same fun k hk _ => hb.block k hk, h3⟩, fun x W W' ⟨b, h1, h2, h3⟩ hb => ⟨b, h1, h2.below hb h2.lt, h3⟩, noF_stays, fun q W W' ⟨h, h1, h2, h3⟩ hb => ⟨h, h1, h2.same fun k hk _ => hb.block k hk, h3⟩, trivial⟩
    case hend =>
      intro xs W hW hf
      simp only [factsA, Det, noF, Nat.zero_add, Nat.reduceAdd, and_true, true_and] at hf
      obtain ⟨f0, f1, ⟨h2, f2, -, -⟩, ⟨b9, f3, g9, hz9⟩, h, f5, hh, hzh⟩ := hf
      obtain ⟨A, n, c, A2, n2, c2, e0⟩ := f0.inW
      refine opV_free rfl ?_
      (simp only [putL, Act.put, upd, List.setIfInBounds_toArray, List.set_cons_zero, List.set_cons_succ])
      rw [e0] at f0
      simp only [e0, f1, f2, f3, f5]
      have gq0 := g9.free 0; have gq1 := g9.free 1; have gc0 := g9.cell 0; have gc1 := g9.cell 1; have gl9 := g9.lt
      simp at gc0 gc1
      go_simp
      have hav : ScAv (fun r => r = h ∨ r = h) (.agg #[.slice A n c, .slice A2 n2 c2]) := f0.avoid (f0.hand hh) (fun r hr => .inl (by rcases hr with e | e <;> exact e))
      have m9 := (g9.set 0 (.slice A n c)).set 1 (.slice A2 n2 c2)
      simp at m9
      have s9 : ScBox ((W.setCell ⟨b9, 0, none⟩ (.slice A n c)).setCell ⟨b9, 1, none⟩ (.slice A2 n2 c2)) b9 1 1 1 (fun r => r = h ∨ r = h) := ⟨_, _, _, _, _, _, m9, (f0.mono (Nat.zero_le _)).turn (f0.noW (two_noW g9)) (setTwo_turn _ _), hav⟩
      have hne9 : b9 ≠ h := hh.ne g9 (by decide) (by decide) (by decide)
      have hh9 : HandV x ra st0 h h (hv x.kind h) ((W.setCell ⟨b9, 0, none⟩ (.slice A n c)).setCell ⟨b9, 1, none⟩ (.slice A2 n2 c2)) := hh.same fun k hk h9 => (setTwo_turn _ _).block k hk (by omega)
      have hb9 : Below w1.heap.size w1 ((W.setCell ⟨b9, 0, none⟩ (.slice A n c)).setCell ⟨b9, 1, none⟩ (.slice A2 n2 c2)) := (hW.setCell (p := ⟨b9, 0, none⟩) hz9 _).setCell (p := ⟨b9, 1, none⟩) hz9 _
      refine gen_w (fun W => Below w1.heap.size w1 W ∧ ScBox W b9 1 1 1 (fun r => r = h ∨ r = h) ∧ HandV x ra st0 h h (hv x.kind h) W) ⟨hb9, s9, hh9⟩ ?_
      clear hb9 s9 hh9 hh gq0 gq1 gc0 gc1 gl9 g9 hav m9 hW f0 f1 f2 f3 f5 e0 hS
      rintro W0 ⟨hb9, s9, hh⟩
      go_wp2_with fail
      obtain ⟨bw, hbw⟩ : ∃ q, q = W0.heap.size := ⟨_, rfl⟩
      rw [← hbw]
      have hzW : w1.heap.size ≤ W0.heap.size := hb9.size
      have hhl := hh.lt; have h9l := s9.lt
      refine gen_w (fun W => ChgAt x y ra l (b3 + 1) b9 (bw + 1) h w.heap.size w 0 0 0 1 st0 h W) ?_ ?_
      · have hbb : Below W0.heap.size W0 ((W0.alloc (.cells #[.int .u64 1] 97)).alloc (.cells #[.slice none 0 0, .slice (some ⟨bw, 0, none⟩) 1 1] 79)) := ((Below.refl _ _).alloc (Nat.le_refl _) _).alloc (by simp) _
        have g11 : Blk ((W0.alloc (.cells #[.int .u64 1] 97)).alloc (.cells #[.slice none 0 0, .slice (some ⟨bw, 0, none⟩) 1 1] 79)) (bw + 1) #[.slice none 0 0, .slice (some ⟨bw, 0, none⟩) 1 1] 79 := Blk.at_ (by simp [hbw])
        have gwd : Wrd ((W0.alloc (.cells #[.int .u64 1] 97)).alloc (.cells #[.slice none 0 0, .slice (some ⟨bw, 0, none⟩) 1 1] 79)) bw [1] := (Blk.at_ hbw).alloc _
        have hbv := bl2 (bl2 hV1 hb9) hbb
        refine ⟨hbv, g2.below (bl2 hb9 hbb) (by omega), s9.below hbb, ⟨_, _, _, _, _, _, g11, ⟨none, 0, [], _, 1, [1], rfl, Rep.nil _, rep_one, by simp, by simp, sl_nil, gwd.sl_take (k := 1) (by simp), Hi.zero _, Hi.zero _⟩, ⟨_, _, _, _, _, _, rfl, fun hn => (by cases hn), fun _ ad e hq => (by cases e; simp at hq; omega)⟩⟩, HOk.start _ _, hh.same fun k hk _ => hbb.block k hk, Nat.lt_of_lt_of_le hhl hbb.size, ⟨by omega, by omega, by omega, by omega⟩, ⟨by omega, by omega, by omega, by omega⟩⟩
      have hal : b9 ≠ bw + 1 ∧ b3 + 1 ≠ bw + 1 ∧ w.heap.size ≤ bw + 1 ∧ b3 + 1 ≠ b9 ∧ w.heap.size ≤ b9 := by have := hV1.size; omega
      clear s9 hh hb9 hhl h9l hzW hV1 g1 g2 hbw
      rename World => Ws
      rintro Wl hCh
      obtain ⟨b11, hb11⟩ : ∃ q, q = bw + 1 := ⟨_, rfl⟩
      rw [← hb11] at hCh hal ⊢
      clear hb11
      have hmx := fun w => hT_method x.kind hCh.hx.kind h w
      have hcx := fun args w => castF_enter x.kind hCh.hx.kind args w
      have hnx := fun w => hT_nil x.kind hCh.hx.kind h w
      rw [hv]
      obtain ⟨TX, hTX⟩ : ∃ q, q = hT x.kind := ⟨_, rfl⟩
      obtain ⟨CX, hCX⟩ : ∃ q, q = castF x.kind := ⟨_, rfl⟩
      rw [← hTX]
      rw [← hTX, ← hCX] at hmx
      rw [← hCX] at hcx
      rw [← hTX] at hnx
      have HTX := Lib.hid hTX; have HCX := Lib.hid hCX; have HCH := Lib.hid hCh
      clear hTX hCX hCh
      refine wp_loop (fun a' W => ∃ (u5 u14 u15 u16 u17 u18 u19 u20 u21 u22 u23 u24 u25 u26 u27 u28 u29 u30 u31 u32 u33 u34 u35 u36 u37 u38 u39 u40 u41 u42 u43 u44 u45 u46 u47 u48 u49 u50 u51 u52 u53 u54 u55 u56 u57 u58 u59 u60 u61 u62 u63 u64 u65 u66 u67 u68 u69 u70 : Value) (t : Nat) (ds : List Deferred), (t ≤ l.length ∧ Marks w.heap.size W ds ∧ Hid (∃ st lb, ChgAt x y ra l (b3 + 1) b9 b11 h w.heap.size w t t (chgGo x.m y.m l t).2.1 (chgGo x.m y.m l t).2.2 st lb W ∧ ∀ D', ({ target := .collected D', args := #[] } : Deferred) ∈ ds → D' ≠ lb)) ∧
        a' = { tmps := #[.agg #[.int .i64 x.kind, .slice x.a x.rows.length x.c, .int .i64 x.after], .agg #[.int .i64 y.kind, .slice y.a y.rows.length y.c, .int .i64 y.after], .slice lA l.length lc, .pointer (some ⟨b3, 0, none⟩), .pointer (some ⟨b3 + 1, 0, none⟩), u5, .int .i64 0, .int .i64 0, .int .i64 0, .pointer (some ⟨b9, 0, none⟩), .iface TX (.pointer (some ⟨h, 0, none⟩)), .pointer (some ⟨b11, 0, none⟩), .int .i64 (chgGo x.m y.m l t).1, .int .i64 (t : Int), u14, u15, u16, u17, u18, u19, u20, u21, u22, u23, u24, u25, u26, u27, u28, u29, u30, u31, u32, u33, u34, u35, u36, u37, u38, u39, u40, u41, u42, u43, u44, u45, u46, u47, u48, u49, u50, u51, u52, u53, u54, u55, u56, u57, u58, u59, u60, u61, u62, u63, u64, u65, u66, u67, u68, u69, u70], defers := ds }) (fun a' _ => l.length + 1 - (intOf (a'.tmps.getD 13 undef)).toNat) ?_ ?_
      · exact ⟨_, _, _, _, _, _, _, _, _, _, _, _, _, _, _, _, _, _, _, _, _, _, _, _, _, _, _, _, _, _, _, _, _, _, _, _, _, _, _, _, _, _, _, _, _, _, _, _, _, _, _, _, _, _, _, _, _, _, 0, [], ⟨by omega, trivial, st0, h, HCH.out, fun D' h9 => by cases h9⟩, rfl⟩
      · intro a' W hI
        obtain ⟨u5, hI⟩ := hI
        obtain ⟨u14, hI⟩ := hI
        obtain ⟨u15, hI⟩ := hI
        obtain ⟨u16, hI⟩ := hI
        obtain ⟨u17, hI⟩ := hI
        obtain ⟨u18, hI⟩ := hI
        obtain ⟨u19, hI⟩ := hI
        obtain ⟨u20, hI⟩ := hI
        obtain ⟨u21, hI⟩ := hI
        obtain ⟨u22, hI⟩ := hI
        obtain ⟨u23, hI⟩ := hI
        obtain ⟨u24, hI⟩ := hI
        obtain ⟨u25, hI⟩ := hI
        obtain ⟨u26, hI⟩ := hI
        obtain ⟨u27, hI⟩ := hI
        obtain ⟨u28, hI⟩ := hI
        obtain ⟨u29, hI⟩ := hI
        obtain ⟨u30, hI⟩ := hI
        obtain ⟨u31, hI⟩ := hI
        obtain ⟨u32, hI⟩ := hI
        obtain ⟨u33, hI⟩ := hI
        obtain ⟨u34, hI⟩ := hI
        obtain ⟨u35, hI⟩ := hI
        obtain ⟨u36, hI⟩ := hI
        obtain ⟨u37, hI⟩ := hI
        obtain ⟨u38, hI⟩ := hI
        obtain ⟨u39, hI⟩ := hI
        obtain ⟨u40, hI⟩ := hI
        obtain ⟨u41, hI⟩ := hI
        obtain ⟨u42, hI⟩ := hI
        obtain ⟨u43, hI⟩ := hI
        obtain ⟨u44, hI⟩ := hI
        obtain ⟨u45, hI⟩ := hI
        obtain ⟨u46, hI⟩ := hI
        obtain ⟨u47, hI⟩ := hI
        obtain ⟨u48, hI⟩ := hI
        obtain ⟨u49, hI⟩ := hI
        obtain ⟨u50, hI⟩ := hI
        obtain ⟨u51, hI⟩ := hI
        obtain ⟨u52, hI⟩ := hI
        obtain ⟨u53, hI⟩ := hI
        obtain ⟨u54, hI⟩ := hI
        obtain ⟨u55, hI⟩ := hI
        obtain ⟨u56, hI⟩ := hI
        obtain ⟨u57, hI⟩ := hI
        obtain ⟨u58, hI⟩ := hI
        obtain ⟨u59, hI⟩ := hI
        obtain ⟨u60, hI⟩ := hI
        obtain ⟨u61, hI⟩ := hI
        obtain ⟨u62, hI⟩ := hI
        obtain ⟨u63, hI⟩ := hI
        obtain ⟨u64, hI⟩ := hI
        obtain ⟨u65, hI⟩ := hI
        obtain ⟨u66, hI⟩ := hI
        obtain ⟨u67, hI⟩ := hI
        obtain ⟨u68, hI⟩ := hI
        obtain ⟨u69, hI⟩ := hI
        obtain ⟨u70, hI⟩ := hI
        obtain ⟨t, ds, ⟨ht, hmk, hch⟩, ha⟩ := hI
        subst ha
        obtain ⟨⟨ai, bo, bu⟩, hgo⟩ : ∃ q : Int × Nat × Nat, q = chgGo x.m y.m l t := ⟨_, rfl⟩
        rw [← hgo] at hch ⊢
        simp only at hch ⊢
        have HGO := Lib.hid hgo
        clear hgo
        obtain ⟨st, lb, q, hnl⟩ := hch.out
        have HNL := Lib.hid hnl
        clear hnl
        obtain ⟨A, n, c, A2, n2, c2, g9, hs9, ha9⟩ := q.s9.at_
        have z0 := g9.cell 0; have z1 := g9.cell 1
        simp at z0 z1
        have HMK := Lib.hid hmk; have HQ := Lib.hid q; have HS9 := Lib.hid hs9; have HA9 := Lib.hid ha9
        have hWz : w.heap.size ≤ W.heap.size := q.bw.size
        clear hmk q hch hs9 ha9 g9 HCH
        go_upto_region 9 with fail
        obtain ⟨b14, hb14⟩ : ∃ q, q = W.heap.size := ⟨_, rfl⟩
        rw [← hb14]
        have hall : Below W.heap.size W (W.alloc (.cells #[.slice A n c, .slice A2 n2 c2] 79)) := (Below.refl _ _).alloc (Nat.le_refl _) _
        refine gen_w (fun V => b14 < V.heap.size ∧ ChgAt x y ra l (b3 + 1) b9 b11 h w.heap.size w t t bo bu st lb V ∧ Marks w.heap.size V ds ∧ ScBox V b14 (ovN x.m l t) (unN x.m l t) (t + 1) (fun r => r = h ∨ r = lb)) ⟨by simp [hb14], HQ.out.below hall, HMK.out.below hall, ⟨_, _, _, _, _, _, Blk.at_ hb14, ScV.stays _ _ _ HS9.out hall, HA9.out⟩⟩ ?_
        have hne14 : b3 + 1 ≠ b14 ∧ b9 ≠ b14 ∧ b11 ≠ b14 ∧ h ≠ b14 ∧ lb ≠ b14 ∧ w.heap.size ≤ b14 := by
          have e1 := HQ.out.g4.lt; have e2 := HQ.out.s9.lt; have e3 := HQ.out.s11.lt; have e4 := HQ.out.hx.lt; have e5 := HQ.out.l1
          omega
        clear hall HQ HMK HS9 HA9 z0 z1 hb14 hWz
        rintro V2 ⟨hl14, q, hmk, s14⟩
        have hS : ∀ W, Below V2.heap.size V2 W → W.cell? ⟨b3 + 1, 0, none⟩ = some (.int .i64 y.kind) ∧ W.cell? ⟨b3 + 1, 1, none⟩ = some (.slice y.a y.rows.length y.c) ∧ W.cell? ⟨b3 + 1, 2, none⟩ = some (.int .i64 y.after) := fun W hW => by
          have g1 := q.g4.below hW q.g4.lt
          have d0 := g1.cell 0; have d1 := g1.cell 1; have d2 := g1.cell 2
          simp at d0 d1 d2
          exact ⟨d0, d1, d2⟩
        obtain ⟨A', hA1, hA2⟩ := HL.out.from_ (fun _ => rfl) t lc hlc
        have hsl := fun W => ints_slice lA l.length lc t W ht
        rw [hA1] at hsl
        have hdl : (l.drop t).length = l.length - t := by simp
        have hregd : regB y.m.outs (l.drop t) := fun v hv => HMY.out.2.2 v (List.mem_of_mem_drop hv)
        have HSH := Lib.hid (fun W (hW : Below w.heap.size w W) => shares_any y (l.drop t) A' (lc - t) w.heap.size W hW.size (HY.out.below hW) (hA2.below hW))
        rw [hdl] at HSH
        have HIT := Lib.hid (fun B => shI_iter y rb tb HYB.out HMY.out.1 (l.drop t) hregd (by omega) A' (lc - t) B (B + 1) w.heap.size)
        have HDL := Lib.hid hdl; have HREG := Lib.hid hregd; have HQ := Lib.hid q; have HMK := Lib.hid hmk; have HS14 := Lib.hid s14
        have hVz : w.heap.size ≤ V2.heap.size := q.bw.size
        clear hA1 hA2 hdl hregd q hmk s14
        refine' wp_region_planE [.eff, .eff, .eff, .eff, .eff] [Det _, Det _, Det _, Det (.slice A' (l.length - t) (lc - t)), fun q W => ∃ B, q = shF B ∧ ShAt y (l.drop t) A' (lc - t) B (B + 1) w.heap.size W ∧ V2.heap.size ≤ B] [(4, 37), (3, 36), (2, 35), (1, 34), (0, 33)] (by kernel_rfl) (by kernel_rfl) (by kernel_rfl) (by kernel_rfl) (by kernel_rfl) (by kernel_rfl) (by kernel_rfl) ?hp ?hend ?hst
        case hp =>
          refine And.intro ⟨[], by kernel_rfl, fun xs W hW hf K hK => opV_free rfl ?_⟩ ?_
          focus (have hs := hS W hW; (try simp only [factsL, pickF, Det, and_true] at hf); (try simp only [putL, Act.put, List.setIfInBounds_toArray, List.set_cons_zero, List.set_cons_succ]); (try simp only [hf]); go_simp; refine hK.out _ _ (Below.refl _ _) ?_; unfold Det; rfl)
          refine And.intro ⟨[], by kernel_rfl, fun xs W hW hf K hK => opV_free rfl ?_⟩ ?_
          focus (have hs := hS W hW; (try simp only [factsL, pickF, Det, and_true] at hf); (try simp only [putL, Act.put, List.setIfInBounds_toArray, List.set_cons_zero, List.set_cons_succ]); (try simp only [hf]); go_simp; refine hK.out _ _ (Below.refl _ _) ?_; unfold Det; rfl)
          refine And.intro ⟨[], by kernel_rfl, fun xs W hW hf K hK => opV_free rfl ?_⟩ ?_
          focus (have hs := hS W hW; (try simp only [factsL, pickF, Det, and_true] at hf); (try simp only [putL, Act.put, List.setIfInBounds_toArray, List.set_cons_zero, List.set_cons_succ]); (try simp only [hf]); go_simp; refine hK.out _ _ (Below.refl _ _) ?_; unfold Det; rfl)
          refine And.intro ⟨[(2, 35), (1, 34)], by kernel_rfl, fun xs W hW hf K hK => opV_free rfl ?_⟩ ?_
          focus (have hs := hS W hW; (try simp only [factsL, pickF, Det, and_true] at hf); (try simp only [putL, Act.put, List.setIfInBounds_toArray, List.set_cons_zero, List.set_cons_succ]); (try simp only [hf]); go_simp; refine hK.out _ _ (Below.refl _ _) ?_; unfold Det; rfl)
          refine And.intro ⟨[(3, 36), (0, 33)], by kernel_rfl, fun xs W hW hf K hK => opV_free rfl ?_⟩ ?_
          · simp only [factsL, pickF, Det, and_true] at hf
            (try simp only [putL, Act.put, List.setIfInBounds_toArray, List.set_cons_zero, List.set_cons_succ])
            simp only [hf]
            go_simp
            refine (HSH.out _ (HQ.out.bw.trans (hW.mono hVz))).mono ?_
            rintro _ w9 ⟨rfl, hsh, hb9, hsz⟩
            exact ⟨_, rfl, hK.out _ _ hb9 ⟨_, rfl, hsh, hW.size⟩⟩
          trivial
        case hst => exact ⟨det_stays, det_stays, det_stays, det_stays, fun q W W' ⟨B, h1, h2, h3⟩ hb => ⟨B, h1, h2.keep (hb.mono (Nat.le_trans h2.zb (Nat.le_of_lt h2.k1.lt))) (hb.block _ h2.k1.lt) (hb.block _ h2.k2.lt), h3⟩, trivial⟩
        case hend =>
          intro xs W3 hW hf
          simp only [factsA, Det, Nat.zero_add, Nat.reduceAdd, and_true] at hf
          obtain ⟨f0, f1, f2, f3, B, f4, hsh, hzB⟩ := hf
          (simp only [putL, Act.put, upd, List.setIfInBounds_toArray, List.set_cons_zero, List.set_cons_succ])
          simp only [f0, f1, f2, f3, f4]
          have HQ := Lib.hid (HQ.out.below hW); have HMK := Lib.hid (HMK.out.below hW); have HS14 := Lib.hid (HS14.out.below hW)
          have HSA := Lib.hid hsh
          have hB2 := hsh.k2.lt
          have hBV : V2.heap.size ≤ W3.heap.size := hW.size
          clear f0 f1 f2 f3 f4 hW hsh hS hsl HSH
          go_wp2_with fail
          have hhz := HQ.out.hx.lt; have hlz := HQ.out.l1
          refine wp_rangeBQ (lb := #[.pointer (some ⟨B, 0, none⟩), .pointer (some ⟨B + 1, 0, none⟩)]) rfl ent_shI (HIT.out B) [] 16 (fun xs => match xs.getD 1 undef with | .agg cs => cs | _ => #[]) 87
            (fun s k W => TurnB (fun r => r = b14) W3.heap.size W3 W ∧ ScBox W b14 (ovN x.m l t * ovN y.m (l.drop t) k) (unN x.m l t * unN y.m (l.drop t) k) (t + 1 + k) (fun r => (r = h ∨ r = lb) ∨ (r = s.1 ∨ r = s.2.1)))
            2 (fun W => TurnB (fun r => r = b14) W3.heap.size W3 W ∧ ∃ P Q, ((0 < cmpN (P * bu) (bo * Q) → chA x.m y.m l t = P ∧ chB x.m y.m l t = Q) ∧ (¬ 0 < cmpN (P * bu) (bo * Q) → ¬ 0 < cmpN (chA x.m y.m l t * bu) (bo * chB x.m y.m l t))) ∧ ScBox W b14 P Q 1000 (fun r => r = h ∨ r = lb)) ?hI ?hIm ?hIx ?hDs (fun z W W' h hb => h.below hb) ?hE ?hD0 ?h0 ?hps ?hassign ?hbody ?hIJ ?hQ ?hdone
          case hI =>
            rintro z k hz W W' row ⟨h1, h2⟩ hg hr
            exact ⟨h1.grown hg h1.size (fun r e => (hr r e).1), h2.grownP hg (fun r e => (hr r e).2.imp .inr id) (fun e => by have := (hr b14 e.symm).1; omega)⟩
          case hIm =>
            rintro z z' k V V' ⟨h1, h2⟩ hb hm
            exact ⟨h1.trans (Below.turn (hb.mono h1.size)), (h2.avoid (fun r hr => by
              rcases hr with hr | hr
              · exact .inl (.inl hr)
              · exact (hm r hr).imp .inr id)).below hb⟩
          case hIx =>
            intro W W' row ⟨h1, P, Q, h2, h3⟩ hg hr
            exact ⟨h1.grown hg h1.size (fun r e => (hr r e).1), P, Q, h2, h3.grownP hg (fun r e => .inr (hr r e).2) (fun e => by have := (hr b14 e.symm).1; omega)⟩
          case hDs => exact fun z W b o' hz h1 h2 hd => hd.putObj _ (by omega) (fun e => by have := hz z.1 (.inl rfl); omega) (fun e => by have := hz z.2.1 (.inr rfl); omega) (by omega) (by omega)
          case hE => exact fun k xs => Stab.pure (xs = #[.int .i64 (k : Int), .agg #[.int .i64 (wtI y.m (l.drop t) k).1, .int .i64 (wtI y.m (l.drop t) k).2]])
          case hD0 => exact fun W hb => ⟨by have := hb.size; omega, HSA.out.keep (hb.mono (by omega)) (hb.block _ (by omega)) (hb.block _ (by omega))⟩
          case h0 => exact fun z W hz hb => ⟨Below.turn hb, ((HS14.out.avoid (fun r hr => by
              rcases hr with hr | hr
              · exact .inl hr
              · exact .inr (by have := hz r hr; omega))).below hb).num (by simp [ovN]) (by simp [unN]) (by omega)⟩
          case hps => intro k W xs h; unfold EncSh at h; subst h; rfl
          case hassign =>
            intro l0 k xs W K he hK
            unfold EncSh at he; subst he
            rw [round2C] at hK
            rw [fold2]
            simp only [List.setIfInBounds_toArray, List.set_cons_succ, List.set_cons_zero] at hK ⊢
            gi_wp2
            exact hK _ ((Below.refl _ _).alloc (Nat.le_refl _) _) (Blk.new _ _ _)
          case hbody =>
            rintro l0 z k xs b W hz hk ⟨hT, hs⟩ hDD he hbk hl2 hl3
            unfold EncSh at he; subst he
            rw [round2C]
            simp only [List.setIfInBounds_toArray, List.set_cons_succ, List.set_cons_zero]
            have hbk : Blk W b #[.int .i64 (wtI y.m (l.drop t) k).1, .int .i64 (wtI y.m (l.drop t) k).2] 87 := hbk
            obtain ⟨A, n, c, A2, n2, c2, g14, hsc, hav⟩ := hs.at_
            have hlk : t + 1 + k ≤ 1000 := by have := HDL.out; omega
            have HA := Lib.hid (and_gen HMY.out.1 HREG.out hk hlk hsc)
            rw [show ovN x.m l t * ovN y.m (l.drop t) k * (wtI y.m (l.drop t) k).1.toNat = ovN x.m l t * ovN y.m (l.drop t) (k + 1) by rw [ovN, Nat.mul_assoc], show unN x.m l t * unN y.m (l.drop t) k * (wtI y.m (l.drop t) k).2.toNat = unN x.m l t * unN y.m (l.drop t) (k + 1) by rw [unN, Nat.mul_assoc]] at HA
            obtain ⟨wt, hwt⟩ : ∃ q, q = (wtI y.m (l.drop t) k).1 := ⟨_, rfl⟩
            obtain ⟨sm, hsm⟩ : ∃ q, q = (wtI y.m (l.drop t) k).2 := ⟨_, rfl⟩
            rw [← hwt, ← hsm] at hbk HA ⊢
            have e0 := hbk.cell 0; have e1 := hbk.cell 1; have c5 := g14.cell 0; have c6 := g14.cell 1
            simp at e0 e1 c5 c6
            have HD := Lib.hid hDD; have HT := Lib.hid hT; have HS := Lib.hid hs
            have hl4 := g14.lt
            have hzh := hz z.1 (.inl rfl); have hzl := hz z.2.1 (.inr rfl)
            have hzz : z.1 < W.heap.size ∧ z.2.1 < W.heap.size := ⟨hDD.1.lt, hDD.2.2⟩
            have hTz := hT.size
            clear hDD hwt hsm hsc hav hbk hT hs g14
            gi_wp2
            refine ⟨trivial, (CallsIn.inRound l0 (callsIn_wide.2 HA.out)).mono ?_⟩
            rintro e w5 h5
            obtain ⟨A', n', c', A2', n2', c2', rfl, hs5, hb5⟩ := RetS.two h5
            have hs' := HS.out.below hb5
            obtain ⟨_, _, _, _, _, _, g5, -, -⟩ := hs'.at_
            have f5 := g5.free 0; have f6 := g5.free 1; have c5 := g5.cell 0; have c6 := g5.cell 1
            simp at c5 c6
            have hav5 : ScAv (fun r => (r = h ∨ r = lb) ∨ (r = z.1 ∨ r = z.2.1)) (.agg #[.slice A' n' c', .slice A2' n2' c2']) := hs5.high (fun r hr => by omega)
            have HP := Lib.hid (hs'.put hs5 hav5)
            have HT5 := Lib.hid (((HT.out.trans (Below.turn (hb5.mono hTz))).setAny (p := ⟨b14, 0, none⟩) (.inl rfl) (.slice A' n' c')).setAny (p := ⟨b14, 1, none⟩) (.inl rfl) (.slice A2' n2' c2'))
            have HB5 := Lib.hid hb5; have HS5 := Lib.hid hs5
            clear h5 hs5 hb5 g5 HA hs' hav5 HT HS
            by_cases h9 : n' = 0
            · subst h9
              gi_wp2
              have hz0 := HS5.out.zero
              refine ⟨(keepsFrom_below HB5.out).trans (((KeepsOthers.setCell _ _ _).from _).trans ((KeepsOthers.setCell _ _ _).from _)), rfl, HT5.out, 0, unN x.m l t * unN y.m (l.drop t) (k + 1), ⟨fun h => absurd h chg_zero, fun _ => by have h9 := chg_zero (bo := bo) (bu := bu) (Q := chB x.m y.m l t); rw [chA_zero hk hz0]; omega⟩, ?_⟩
              exact (HP.out.avoid (fun r hr => .inl (.inl hr))).num hz0 rfl (by have := HDL.out; omega)
            · have hQ9 : ((n' : Int) == 0) = false := by simp; exact h9
              have hQ8 : (n' == 0) = false := by simp; exact h9
              gi_wp2
              refine ⟨(keepsFrom_below HB5.out).trans (((KeepsOthers.setCell _ _ _).from _).trans ((KeepsOthers.setCell _ _ _).from _)), ⟨HT5.out, HP.out.num rfl rfl (by omega)⟩, ?_⟩
              exact ((HD.out.below HB5.out).setCell ⟨b14, 0, none⟩ (.slice A' n' c') (by show w.heap.size ≤ b14; omega) (by show b14 ≠ _; omega) (by show b14 ≠ _; omega) (by show b14 ≠ _; omega) (by show b14 ≠ _; omega)).setCell ⟨b14, 1, none⟩ (.slice A2' n2' c2') (by show w.heap.size ≤ b14; omega) (by show b14 ≠ _; omega) (by show b14 ≠ _; omega) (by show b14 ≠ _; omega) (by show b14 ≠ _; omega)
          case hIJ =>
            rintro z W hz ⟨hT, hs⟩
            exact ⟨hT, chA x.m y.m l t, chB x.m y.m l t, ⟨fun _ => ⟨rfl, rfl⟩, id⟩, (hs.avoid (Q' := fun r => r = h ∨ r = lb) (fun r hr => .inl (.inl hr))).num (p' := chA x.m y.m l t) (q' := chB x.m y.m l t) (len' := 1000) (by unfold chA; rw [HDL.out]) (by unfold chB; rw [HDL.out]) (by have := HDL.out; omega)⟩
          case hQ => exact fun a W h => h
          case hdone =>
            rintro D W ⟨hT, P, Q, ⟨hpt, hpf⟩, hs⟩ hD hDW
            have HPT := Lib.hid hpt; have HPF := Lib.hid hpf
            clear hpt hpf
            obtain ⟨_, _, _, _, _, _, gz, -, -⟩ := HS14.out.at_
            have hq := HQ.out.turn hT (two_noW gz) hne14.2.2.2.2.2 hne14.1 hne14.2.1 hne14.2.2.1 hne14.2.2.2.1 hne14.2.2.2.2.1
            have hm := Marks.push HMK.out (HMK.out.turn hT gz) (by omega) hD hDW
            have HNL2 : Hid (∀ D', ({ target := .collected D', args := #[] } : Deferred) ∈ ({ target := .collected D, args := #[] } : Deferred) :: ds → D' ≠ lb) := Lib.hid fun D' h9 => by
              rcases List.mem_cons.1 h9 with e | e
              · cases e; omega
              · exact HNL.out D' e
            obtain ⟨A, n, c, A2, n2, c2, g14, hs14, ha14⟩ := hs.at_
            obtain ⟨C, m, d, C2, m2, d2, g11, hs11, ha11⟩ := hq.s11.at_
            have z0 := g14.cell 0; have z1 := g14.cell 1; have z2 := g11.cell 0; have z3 := g11.cell 1
            simp at z0 z1 z2 z3
            have HCMP := Lib.hid (scCmp_any P Q bo bu 1000 _ _ 0 0 W (by omega) hs14 hs11)
            obtain ⟨v, hv⟩ : ∃ v, v = cmpN (P * bu) (bo * Q) := ⟨_, rfl⟩
            rw [← hv] at HCMP HPT HPF
            have HQW := Lib.hid hq; have HMW := Lib.hid hm; have HG14 := Lib.hid g14; have HS14b := Lib.hid hs14; have HA14 := Lib.hid ha14; have HV := Lib.hid hv
            clear hq hm hs hs14 ha14 hs11 ha11 hT g14 g11 gz hv hDW
            have hal1 : b9 ≠ b11 ∧ b3 + 1 ≠ b11 ∧ w.heap.size ≤ b11 ∧ b3 + 1 ≠ b9 ∧ w.heap.size ≤ b9 := hal
            go_wp2_with (first | (go_at_call 42; refine HCMP.out.mono ?_; rintro _ w6 ⟨rfl, hb6⟩; refine Hid.out ?_) | fail)
            have hq := HQW.out.below hb6; have hm := HMW.out.below hb6; have g14 := HG14.out.below hb6 HG14.out.lt; have hs14 := ScV.stays _ _ _ HS14b.out hb6
            clear z0 z1 z2 z3 HQW HMW HG14 HS14b HCMP hb6
            by_cases h0 : 0 < v
            · have hQ0 : decide (0 < v) = true := by simp; exact h0
              obtain ⟨e1, e2⟩ := HPT.out h0
              have HGN : Hid (chgGo x.m y.m l (t + 1) = ((t : Int), P, Q)) := (by show _ = _; unfold chgGo; rw [← HGO.out]; simp only; rw [e1, e2, ← HV.out, if_pos h0] : _)
              obtain ⟨C, m, d, C2, m2, d2, g11, -, -⟩ := hq.s11.at_
              have z0 := g14.cell 0; have z1 := g14.cell 1; have z2 := g11.cell 0; have z3 := g11.cell 1; have f2 := g11.free 0; have f3 := g11.free 1
              simp at z0 z1 z2 z3
              have hl11 := g11.lt
              have hqb := hq.best hs14 HA14.out hal1.1 hal1.2.1 hal1.2.2.1
              have hTT := setTwo_turn (W := w6) (b := b11) (.slice A n c) (.slice A2 n2 c2)
              have hmb := hm.turn hTT g11
              have HQB := Lib.hid hqb; have HMB := Lib.hid hmb
              clear hqb hmb hTT hq hm g11 g14 hs14 e1 e2 h0
              refine Lib.hid ?_
              go_upto_region 15 with fail
              refine gen_w (fun V => ChgAt x y ra l (b3 + 1) b9 b11 h w.heap.size w t t P Q st lb V ∧ Marks w.heap.size V ({ target := .collected D, args := #[] } :: ds)) ⟨HQB.out, HMB.out⟩ ?_
              clear HQB HMB z0 z1 z2 z3 f2 f3 hl11
              rintro W7 ⟨hq, hm⟩
              by_cases hte : t = l.length
              · have hQe : ((t : Int) == (l.length : Int)) = true := by simp; omega
                have HEX : Hid (chgR x.m y.m l = if (t : Int) < 0 then (0, 7) else ((t : Int), 0)) := (by show _ = _; unfold chgR; rw [if_pos HR.out.symm, ← hte, HGN.out] : _)
                have hV := hq.bw
                have hti : (t : Int) = (l.length : Int) := by omega
                clear hq
                by_cases ha : (t : Int) < 0
                · have hQa : decide ((t : Int) < 0) = true := by first | (simp; omega) | simp
                  have hE := HEX.out
                  rw [if_pos ha] at hE
                  have HE := Lib.hid hE
                  clear hE ha HEX hte hti
                  go_wp2_with fail
                  refine marks_retN (v := .tuple #[.int .i64 0, .int .i64 7]) (fun W => Below w.heap.size w W) hm hV (fun W' D' hp hD' hW' => below_putObj hp hD' hW' _) (fun W' hp => ⟨by simp [results, Try.results21, go_sem], ?_⟩)
                  rw [HE.out]
                  exact ⟨rfl, hp⟩
                · have hQa : decide ((t : Int) < 0) = false := by first | (simp; omega) | simp
                  have hE := HEX.out
                  rw [if_neg ha] at hE
                  have HE := Lib.hid hE
                  clear hE ha HEX hte hti
                  go_wp2_with fail
                  refine marks_retN (v := .tuple #[.int .i64 (t : Int), .int .i64 0]) (fun W => Below w.heap.size w W) hm hV (fun W' D' hp hD' hW' => below_putObj hp hD' hW' _) (fun W' hp => ⟨by simp [results, Try.results21, go_sem], ?_⟩)
                  rw [HE.out]
                  exact ⟨rfl, hp⟩
              · have hQe : ((t : Int) == (l.length : Int)) = false := by simp; omega
                have htl : t < l.length := by omega
                clear hte
                obtain ⟨b, o, rfl, hb, hc⟩ := (HL.out.below hq.bw).int_at htl
                have e1 : l.getD t 0 = l[t] := by simp [htl]
                obtain ⟨y0, hy0⟩ : ∃ q, q = l[t] := ⟨_, rfl⟩
                rw [← hy0] at hc e1
                obtain ⟨A9, n9, c9, B9, m9, d9, g9, hs9, ha9⟩ := hq.s9.at_
                have x0 := g9.cell 0; have x1 := g9.cell 1
                simp at x0 x1
                have a1 := hq.a1; have a2 := hq.a2
                have hq := hq.below (Below.refl _ W7).drew
                have hm := hm.below (Below.refl _ W7).drew
                have HC1 := Lib.hid (castO_any x ra ta HXA.out HMX.out.1 l HMX.out.2.2 hlen t htl st hq.ox h lb w.heap.size W7.drew (by omega) (by omega) hq.bw.size (HX.out.below hq.bw) hq.hx y0 e1)
                have HAW := Lib.hid (fun W lo u v (hs : ScV (ovN x.m l t) (unN x.m l t) (t + 1) lo (.agg #[u, v]) W) => and_wt HMX.out.1 HMX.out.2.2 hl4 htl hs)
                obtain ⟨wa, hwa⟩ : ∃ q, q = (wtI x.m l t).1 := ⟨_, rfl⟩
                obtain ⟨sa, hsa⟩ : ∃ q, q = (wtI x.m l t).2 := ⟨_, rfl⟩
                rw [← HCX.out] at HC1
                rw [← hwa, ← hsa] at HC1 HAW
                have HQ7 := Lib.hid hq; have HM7 := Lib.hid hm; have HS7 := Lib.hid (ScV.stays _ _ _ hs9 (Below.refl _ W7).drew); have HA7 := Lib.hid ha9
                have hbz : b < W7.heap.size := by have : w.heap.size ≤ W7.heap.size := hq.bw.size; omega
                have hl9 := g9.lt
                clear hwa hsa hq hm hs9 ha9 hy0 e1
                go_upto_region 16 with fail
                refine wp_region_noPanic ?_
                refine wp_region_T (S := fun w' => w'.cell? ⟨b9, 0, none⟩ = some (.slice A9 n9 c9) ∧ w'.cell? ⟨b9, 1, none⟩ = some (.slice B9 m9 d9) ∧ w'.cell? ⟨b, o + t, none⟩ = some (.int .i64 y0)) 11 (by kernel_rfl) (by kernel_rfl) (by kernel_rfl) (by kernel_rfl) (by decide) ⟨x0, x1, hc⟩ (fun hHeld => ?_)
                refine WT.takeD (i := 0) (d := some 57) (v := ?v0y) rfl rfl (by decide) (by kernel_rfl) (by kernel_rfl) (fun _ _ _ h => h) (Or.inl ⟨by rfl, ?h0y⟩) (by assumption) ?r0y
                case h0y => (intro w hSw; (try dsimp only at hSw); go_simp; (try with_reducible rfl))
                try simp only [Act.put, List.setIfInBounds_toArray, List.set_cons_zero, List.set_cons_succ]
                refine WT.takeD (i := 1) (d := some 58) (v := ?v1y) rfl rfl (by decide) (by kernel_rfl) (by kernel_rfl) (fun _ _ _ h => h) (Or.inl ⟨by rfl, ?h1y⟩) (by assumption) ?r1y
                case h1y => (intro w hSw; (try dsimp only at hSw); go_simp; (try with_reducible rfl))
                try simp only [Act.put, List.setIfInBounds_toArray, List.set_cons_zero, List.set_cons_succ]
                refine WT.takeD (i := 2) (d := some 59) (v := ?v2y) rfl rfl (by decide) (by kernel_rfl) (by kernel_rfl) (fun _ _ _ h => h) (Or.inl ⟨by rfl, ?h2y⟩) (by assumption) ?r2y
                case h2y => (intro w hSw; (try dsimp only at hSw); go_simp; (try with_reducible rfl))
                try simp only [Act.put, List.setIfInBounds_toArray, List.set_cons_zero, List.set_cons_succ]
                refine WT.takeD (i := 3) (d := some 60) (v := ?v3y) rfl rfl (by decide) (by kernel_rfl) (by kernel_rfl) (fun _ _ _ h => h) (Or.inl ⟨by rfl, ?h3y⟩) (by assumption) ?r3y
                case h3y => (intro w hSw; (try dsimp only at hSw); go_simp; (try with_reducible rfl))
                try simp only [Act.put, List.setIfInBounds_toArray, List.set_cons_zero, List.set_cons_succ]
                refine WT.takeD (i := 4) (d := some 61) (v := ?v4y) rfl rfl (by decide) (by kernel_rfl) (by kernel_rfl) (fun _ _ _ h => h) (Or.inl ⟨by rfl, ?h4y⟩) (by assumption) ?r4y
                case h4y => (intro w hSw; (try dsimp only at hSw); go_simp; (try with_reducible rfl))
                try simp only [Act.put, List.setIfInBounds_toArray, List.set_cons_zero, List.set_cons_succ]
                refine WT.takeD (i := 5) (d := some 62) (v := ?v5y) rfl rfl (by decide) (by kernel_rfl) (by kernel_rfl) (fun _ _ _ h => h) (Or.inl ⟨by rfl, ?h5y⟩) (by assumption) ?r5y
                case h5y => (intro w hSw; (try dsimp only at hSw); go_simp; (try with_reducible rfl))
                try simp only [Act.put, List.setIfInBounds_toArray, List.set_cons_zero, List.set_cons_succ]
                refine WT.takeD (i := 6) (d := some 63) (v := ?v6y) rfl rfl (by decide) (by kernel_rfl) (by kernel_rfl) (fun _ _ _ h => h) (Or.inl ⟨by rfl, ?h6y⟩) (by assumption) ?r6y
                case h6y => (intro w hSw; (try dsimp only at hSw); go_simp; (try with_reducible rfl))
                try simp only [Act.put, List.setIfInBounds_toArray, List.set_cons_zero, List.set_cons_succ]
                refine WT.takeD (i := 7) (d := some 64) (v := ?v7y) rfl rfl (by decide) (by kernel_rfl) (by kernel_rfl) (fun _ _ _ h => h) (Or.inl ⟨by rfl, ?h7y⟩) (by assumption) ?r7y
                case h7y => (intro w hSw; (try dsimp only at hSw); go_simp; (try with_reducible rfl))
                try simp only [Act.put, List.setIfInBounds_toArray, List.set_cons_zero, List.set_cons_succ]
                refine WT.takeD (i := 8) (d := some 65) (v := ?v8y) rfl rfl (by decide) (by kernel_rfl) (by kernel_rfl) (fun _ _ _ h => h) (Or.inl ⟨by rfl, ?h8y⟩) (by assumption) ?r8y
                case h8y => (intro w hSw; (try dsimp only at hSw); go_simp; (try with_reducible rfl))
                try simp only [Act.put, List.setIfInBounds_toArray, List.set_cons_zero, List.set_cons_succ]
                refine WT.one (i := 9) rfl (by decide) (by kernel_rfl) (fun K hK => ?_)
                go_simp
                refine HC1.out.mono ?_
                rintro _ w8 ⟨rfl, st2, lb2, ho2, hh2, hor2, hlt2, hT2⟩
                have hq8 := HQ7.out.cast ho2 hh2 hor2 hlt2 hT2
                have hm8 := HM7.out.keep (W' := w8) (fun D' hD' hw => (hT2.block D' (Array.getElem?_eq_some_iff.1 hw).1 (fun e => by
                  rcases e with e | e
                  · subst e; exact HQ7.out.hx.cells_ hw
                  · exact HNL2.out D' hD' e)).trans hw)
                have HNL3 : Hid (∀ D', ({ target := .collected D', args := #[] } : Deferred) ∈ ({ target := .collected D, args := #[] } : Deferred) :: ds → D' ≠ lb2) := Lib.hid fun D' h9 => by
                  rcases hor2 with e | e
                  · rw [e]; exact HNL2.out D' h9
                  · have := (Array.getElem?_eq_some_iff.1 (HM7.out.at_ D' h9).2).1
                    omega
                have x0 := (hT2.cell hl9 (by omega) 0).trans x0
                have x1 := (hT2.cell hl9 (by omega) 1).trans x1
                have hc := (hT2.cell hbz (by omega) (o + t)).trans hc
                have hs8 := HS7.out.turn HA7.out hT2
                have HQ8 := Lib.hid hq8; have HM8 := Lib.hid hm8; have HS8 := Lib.hid hs8
                have hl9 := hq8.s9.lt; have hbz : b < w8.heap.size := Nat.lt_of_lt_of_le hbz hT2.size
                clear ho2 hh2 hor2 hlt2 hT2 hq8 hm8 hs8 HQ7 HM7 HS7 HA7 HC1
                refine hK.out _ _ ⟨x0, x1, hc⟩ (fun hHeld => ?_)
                clear hK K
                refine WT.one (i := 10) rfl (by decide) (by kernel_rfl) (fun K hK => ?_)
                go_simp
                refine (HAW.out w8 _ _ _ HS8.out).mono ?_
                rintro _ w9 h9
                obtain ⟨F, fn_, fc, F2, fn2, fc2, rfl, hs9, hb9⟩ := RetS.two h9
                have hq9 := HQ8.out.below hb9
                have hm9 := HM8.out.below hb9
                have x0 := (hb9.cell (p := ⟨b9, 0, none⟩) hl9).trans x0
                have x1 := (hb9.cell (p := ⟨b9, 1, none⟩) hl9).trans x1
                have hc := (hb9.cell (p := ⟨b, o + t, none⟩) hbz).trans hc
                have a3 := hq9.a1; have hhl := HQ8.out.hx.lt; have hll := HQ8.out.l1
                have hqf := hq9.first hs9 (hs9.high (fun r hr => by omega)) hal1.1.symm hal1.2.2.2.1 hal1.2.2.2.2
                obtain ⟨_, _, _, _, _, _, g9, -, -⟩ := hq9.s9.at_
                have hmf := hm9.turn (setTwo_turn (W := w9) (b := b9) (.slice F fn_ fc) (.slice F2 fn2 fc2)) g9
                have f9 := g9.free 0; have f8 := g9.free 1
                have HQF := Lib.hid hqf; have HMF := Lib.hid hmf
                clear h9 hs9 hb9 hq9 hm9 hqf hmf g9 HQ8 HM8 HS8 hhl hll
                refine hK.out _ _ ⟨x0, x1, hc⟩ (fun hHeld => ?_)
                clear hK K
                refine WT.last rfl (by kernel_rfl) (by kernel_rfl) (fun K hK => ?_)
                go_simp
                refine hK.out _ _ ?_
                clear hK K
                refine gen_w (F := fun _ V => _) (fun V => ChgAt x y ra l (b3 + 1) b9 b11 h w.heap.size w (t + 1) (t + 1) P Q st2 lb2 V ∧ Marks w.heap.size V ({ target := .collected D, args := #[] } :: ds)) ⟨HQF.out, HMF.out⟩ ?_
                clear HQF HMF x0 x1 hc f9 f8 hl9
                rintro W9 ⟨hq, hm⟩
                refine NoPanic.normal ?_
                have hc1 : ((t + 1 : Nat) : Int) = (t : Int) + 1 := by omega
                have HC1' := Lib.hid hc1
                clear hc1
                go_wp2_with fail
                refine ⟨⟨?_, ?_, ?_, ?_, ?_, ?_, ?_, ?_, ?_, ?_, ?_, ?_, ?_, ?_, ?_, ?_, ?_, ?_, ?_, ?_, ?_, ?_, ?_, ?_, ?_, ?_, ?_, ?_, ?_, ?_, ?_, ?_, ?_, ?_, ?_, ?_, ?_, ?_, ?_, ?_, ?_, ?_, ?_, ?_, ?_, ?_, ?_, ?_, ?_, ?_, ?_, ?_, ?_, ?_, ?_, ?_, ?_, ?_, t + 1, ({ target := .collected D, args := #[] } : Deferred) :: ds, ⟨by omega, hm, ?hrely⟩, ?hacty⟩, ?hmeay⟩
                case hacty =>
                  rw [HGN.out, HC1'.out]
                case hmeay => simp [intOf] <;> omega
                case hrely =>
                  rw [HGN.out]
                  exact ⟨st2, lb2, hq, HNL3.out⟩
            · have hQ0 : decide (0 < v) = false := by simp; omega
              have HGN : Hid (chgGo x.m y.m l (t + 1) = (ai, bo, bu)) := (by show _ = _; unfold chgGo; rw [← HGO.out]; simp only; rw [if_neg (by have h9 := HPF.out (by omega); omega)] : _)
              clear h0 g14 hs14
              refine Lib.hid ?_
              go_upto_region 15 with fail
              refine gen_w (fun V => ChgAt x y ra l (b3 + 1) b9 b11 h w.heap.size w t t bo bu st lb V ∧ Marks w.heap.size V ({ target := .collected D, args := #[] } :: ds)) ⟨hq, hm⟩ ?_
              clear hq hm
              rintro W7 ⟨hq, hm⟩
              --D< e2
              by_cases hte : t = l.length
              · have hQe : ((t : Int) == (l.length : Int)) = true := by simp; omega
                have HEX : Hid (chgR x.m y.m l = if ai < 0 then (0, 7) else (ai, 0)) := (by show _ = _; unfold chgR; rw [if_pos HR.out.symm, ← hte, HGN.out] : _)
                have hV := hq.bw
                have hti : (t : Int) = (l.length : Int) := by omega
                clear hq
                by_cases ha : ai < 0
                · have hQa : decide (ai < 0) = true := by first | (simp; omega) | simp
                  have hE := HEX.out
                  rw [if_pos ha] at hE
                  have HE := Lib.hid hE
                  clear hE ha HEX hte hti
                  go_wp2_with fail
                  refine marks_retN (v := .tuple #[.int .i64 0, .int .i64 7]) (fun W => Below w.heap.size w W) hm hV (fun W' D' hp hD' hW' => below_putObj hp hD' hW' _) (fun W' hp => ⟨by simp [results, Try.results21, go_sem], ?_⟩)
                  rw [HE.out]
                  exact ⟨rfl, hp⟩
                · have hQa : decide (ai < 0) = false := by first | (simp; omega) | simp
                  have hE := HEX.out
                  rw [if_neg ha] at hE
                  have HE := Lib.hid hE
                  clear hE ha HEX hte hti
                  go_wp2_with fail
                  refine marks_retN (v := .tuple #[.int .i64 ai, .int .i64 0]) (fun W => Below w.heap.size w W) hm hV (fun W' D' hp hD' hW' => below_putObj hp hD' hW' _) (fun W' hp => ⟨by simp [results, Try.results21, go_sem], ?_⟩)
                  rw [HE.out]
                  exact ⟨rfl, hp⟩
              · have hQe : ((t : Int) == (l.length : Int)) = false := by simp; omega
                have htl : t < l.length := by omega
                clear hte
                obtain ⟨b, o, rfl, hb, hc⟩ := (HL.out.below hq.bw).int_at htl
                have e1 : l.getD t 0 = l[t] := by simp [htl]
                obtain ⟨y0, hy0⟩ : ∃ q, q = l[t] := ⟨_, rfl⟩
                rw [← hy0] at hc e1
                obtain ⟨A9, n9, c9, B9, m9, d9, g9, hs9, ha9⟩ := hq.s9.at_
                have x0 := g9.cell 0; have x1 := g9.cell 1
                simp at x0 x1
                have a1 := hq.a1; have a2 := hq.a2
                have hq := hq.below (Below.refl _ W7).drew
                have hm := hm.below (Below.refl _ W7).drew
                have HC1 := Lib.hid (castO_any x ra ta HXA.out HMX.out.1 l HMX.out.2.2 hlen t htl st hq.ox h lb w.heap.size W7.drew (by omega) (by omega) hq.bw.size (HX.out.below hq.bw) hq.hx y0 e1)
                have HAW := Lib.hid (fun W lo u v (hs : ScV (ovN x.m l t) (unN x.m l t) (t + 1) lo (.agg #[u, v]) W) => and_wt HMX.out.1 HMX.out.2.2 hl4 htl hs)
                obtain ⟨wa, hwa⟩ : ∃ q, q = (wtI x.m l t).1 := ⟨_, rfl⟩
                obtain ⟨sa, hsa⟩ : ∃ q, q = (wtI x.m l t).2 := ⟨_, rfl⟩
                rw [← HCX.out] at HC1
                rw [← hwa, ← hsa] at HC1 HAW
                have HQ7 := Lib.hid hq; have HM7 := Lib.hid hm; have HS7 := Lib.hid (ScV.stays _ _ _ hs9 (Below.refl _ W7).drew); have HA7 := Lib.hid ha9
                have hbz : b < W7.heap.size := by have : w.heap.size ≤ W7.heap.size := hq.bw.size; omega
                have hl9 := g9.lt
                clear hwa hsa hq hm hs9 ha9 hy0 e1
                go_upto_region 16 with fail
                refine wp_region_noPanic ?_
                refine wp_region_T (S := fun w' => w'.cell? ⟨b9, 0, none⟩ = some (.slice A9 n9 c9) ∧ w'.cell? ⟨b9, 1, none⟩ = some (.slice B9 m9 d9) ∧ w'.cell? ⟨b, o + t, none⟩ = some (.int .i64 y0)) 11 (by kernel_rfl) (by kernel_rfl) (by kernel_rfl) (by kernel_rfl) (by decide) ⟨x0, x1, hc⟩ (fun hHeld => ?_)
                refine WT.takeD (i := 0) (d := some 57) (v := ?v0z) rfl rfl (by decide) (by kernel_rfl) (by kernel_rfl) (fun _ _ _ h => h) (Or.inl ⟨by rfl, ?h0z⟩) (by assumption) ?r0z
                case h0z => (intro w hSw; (try dsimp only at hSw); go_simp; (try with_reducible rfl))
                try simp only [Act.put, List.setIfInBounds_toArray, List.set_cons_zero, List.set_cons_succ]
                refine WT.takeD (i := 1) (d := some 58) (v := ?v1z) rfl rfl (by decide) (by kernel_rfl) (by kernel_rfl) (fun _ _ _ h => h) (Or.inl ⟨by rfl, ?h1z⟩) (by assumption) ?r1z
                case h1z => (intro w hSw; (try dsimp only at hSw); go_simp; (try with_reducible rfl))
                try simp only [Act.put, List.setIfInBounds_toArray, List.set_cons_zero, List.set_cons_succ]
                refine WT.takeD (i := 2) (d := some 59) (v := ?v2z) rfl rfl (by decide) (by kernel_rfl) (by kernel_rfl) (fun _ _ _ h => h) (Or.inl ⟨by rfl, ?h2z⟩) (by assumption) ?r2z
                case h2z => (intro w hSw; (try dsimp only at hSw); go_simp; (try with_reducible rfl))
                try simp only [Act.put, List.setIfInBounds_toArray, List.set_cons_zero, List.set_cons_succ]
                refine WT.takeD (i := 3) (d := some 60) (v := ?v3z) rfl rfl (by decide) (by kernel_rfl) (by kernel_rfl) (fun _ _ _ h => h) (Or.inl ⟨by rfl, ?h3z⟩) (by assumption) ?r3z
                case h3z => (intro w hSw; (try dsimp only at hSw); go_simp; (try with_reducible rfl))
                try simp only [Act.put, List.setIfInBounds_toArray, List.set_cons_zero, List.set_cons_succ]
                refine WT.takeD (i := 4) (d := some 61) (v := ?v4z) rfl rfl (by decide) (by kernel_rfl) (by kernel_rfl) (fun _ _ _ h => h) (Or.inl ⟨by rfl, ?h4z⟩) (by assumption) ?r4z
                case h4z => (intro w hSw; (try dsimp only at hSw); go_simp; (try with_reducible rfl))
                try simp only [Act.put, List.setIfInBounds_toArray, List.set_cons_zero, List.set_cons_succ]
                refine WT.takeD (i := 5) (d := some 62) (v := ?v5z) rfl rfl (by decide) (by kernel_rfl) (by kernel_rfl) (fun _ _ _ h => h) (Or.inl ⟨by rfl, ?h5z⟩) (by assumption) ?r5z
                case h5z => (intro w hSw; (try dsimp only at hSw); go_simp; (try with_reducible rfl))
                try simp only [Act.put, List.setIfInBounds_toArray, List.set_cons_zero, List.set_cons_succ]
                refine WT.takeD (i := 6) (d := some 63) (v := ?v6z) rfl rfl (by decide) (by kernel_rfl) (by kernel_rfl) (fun _ _ _ h => h) (Or.inl ⟨by rfl, ?h6z⟩) (by assumption) ?r6z
                case h6z => (intro w hSw; (try dsimp only at hSw); go_simp; (try with_reducible rfl))
                try simp only [Act.put, List.setIfInBounds_toArray, List.set_cons_zero, List.set_cons_succ]
                refine WT.takeD (i := 7) (d := some 64) (v := ?v7z) rfl rfl (by decide) (by kernel_rfl) (by kernel_rfl) (fun _ _ _ h => h) (Or.inl ⟨by rfl, ?h7z⟩) (by assumption) ?r7z
                case h7z => (intro w hSw; (try dsimp only at hSw); go_simp; (try with_reducible rfl))
                try simp only [Act.put, List.setIfInBounds_toArray, List.set_cons_zero, List.set_cons_succ]
                refine WT.takeD (i := 8) (d := some 65) (v := ?v8z) rfl rfl (by decide) (by kernel_rfl) (by kernel_rfl) (fun _ _ _ h => h) (Or.inl ⟨by rfl, ?h8z⟩) (by assumption) ?r8z
                case h8z => (intro w hSw; (try dsimp only at hSw); go_simp; (try with_reducible rfl))
                try simp only [Act.put, List.setIfInBounds_toArray, List.set_cons_zero, List.set_cons_succ]
                refine WT.one (i := 9) rfl (by decide) (by kernel_rfl) (fun K hK => ?_)
                go_simp
                refine HC1.out.mono ?_
                rintro _ w8 ⟨rfl, st2, lb2, ho2, hh2, hor2, hlt2, hT2⟩
                have hq8 := HQ7.out.cast ho2 hh2 hor2 hlt2 hT2
                have hm8 := HM7.out.keep (W' := w8) (fun D' hD' hw => (hT2.block D' (Array.getElem?_eq_some_iff.1 hw).1 (fun e => by
                  rcases e with e | e
                  · subst e; exact HQ7.out.hx.cells_ hw
                  · exact HNL2.out D' hD' e)).trans hw)
                have HNL3 : Hid (∀ D', ({ target := .collected D', args := #[] } : Deferred) ∈ ({ target := .collected D, args := #[] } : Deferred) :: ds → D' ≠ lb2) := Lib.hid fun D' h9 => by
                  rcases hor2 with e | e
                  · rw [e]; exact HNL2.out D' h9
                  · have := (Array.getElem?_eq_some_iff.1 (HM7.out.at_ D' h9).2).1
                    omega
                have x0 := (hT2.cell hl9 (by omega) 0).trans x0
                have x1 := (hT2.cell hl9 (by omega) 1).trans x1
                have hc := (hT2.cell hbz (by omega) (o + t)).trans hc
                have hs8 := HS7.out.turn HA7.out hT2
                have HQ8 := Lib.hid hq8; have HM8 := Lib.hid hm8; have HS8 := Lib.hid hs8
                have hl9 := hq8.s9.lt; have hbz : b < w8.heap.size := Nat.lt_of_lt_of_le hbz hT2.size
                clear ho2 hh2 hor2 hlt2 hT2 hq8 hm8 hs8 HQ7 HM7 HS7 HA7 HC1
                refine hK.out _ _ ⟨x0, x1, hc⟩ (fun hHeld => ?_)
                clear hK K
                refine WT.one (i := 10) rfl (by decide) (by kernel_rfl) (fun K hK => ?_)
                go_simp
                refine (HAW.out w8 _ _ _ HS8.out).mono ?_
                rintro _ w9 h9
                obtain ⟨F, fn_, fc, F2, fn2, fc2, rfl, hs9, hb9⟩ := RetS.two h9
                have hq9 := HQ8.out.below hb9
                have hm9 := HM8.out.below hb9
                have x0 := (hb9.cell (p := ⟨b9, 0, none⟩) hl9).trans x0
                have x1 := (hb9.cell (p := ⟨b9, 1, none⟩) hl9).trans x1
                have hc := (hb9.cell (p := ⟨b, o + t, none⟩) hbz).trans hc
                have a3 := hq9.a1; have hhl := HQ8.out.hx.lt; have hll := HQ8.out.l1
                have hqf := hq9.first hs9 (hs9.high (fun r hr => by omega)) hal1.1.symm hal1.2.2.2.1 hal1.2.2.2.2
                obtain ⟨_, _, _, _, _, _, g9, -, -⟩ := hq9.s9.at_
                have hmf := hm9.turn (setTwo_turn (W := w9) (b := b9) (.slice F fn_ fc) (.slice F2 fn2 fc2)) g9
                have f9 := g9.free 0; have f8 := g9.free 1
                have HQF := Lib.hid hqf; have HMF := Lib.hid hmf
                clear h9 hs9 hb9 hq9 hm9 hqf hmf g9 HQ8 HM8 HS8 hhl hll
                refine hK.out _ _ ⟨x0, x1, hc⟩ (fun hHeld => ?_)
                clear hK K
                refine WT.last rfl (by kernel_rfl) (by kernel_rfl) (fun K hK => ?_)
                go_simp
                refine hK.out _ _ ?_
                clear hK K
                refine gen_w (F := fun _ V => _) (fun V => ChgAt x y ra l (b3 + 1) b9 b11 h w.heap.size w (t + 1) (t + 1) bo bu st2 lb2 V ∧ Marks w.heap.size V ({ target := .collected D, args := #[] } :: ds)) ⟨HQF.out, HMF.out⟩ ?_
                clear HQF HMF x0 x1 hc f9 f8 hl9
                rintro W9 ⟨hq, hm⟩
                refine NoPanic.normal ?_
                have hc1 : ((t + 1 : Nat) : Int) = (t : Int) + 1 := by omega
                have HC1' := Lib.hid hc1
                clear hc1
                go_wp2_with fail
                refine ⟨⟨?_, ?_, ?_, ?_, ?_, ?_, ?_, ?_, ?_, ?_, ?_, ?_, ?_, ?_, ?_, ?_, ?_, ?_, ?_, ?_, ?_, ?_, ?_, ?_, ?_, ?_, ?_, ?_, ?_, ?_, ?_, ?_, ?_, ?_, ?_, ?_, ?_, ?_, ?_, ?_, ?_, ?_, ?_, ?_, ?_, ?_, ?_, ?_, ?_, ?_, ?_, ?_, ?_, ?_, ?_, ?_, ?_, ?_, t + 1, ({ target := .collected D, args := #[] } : Deferred) :: ds, ⟨by omega, hm, ?hrelz⟩, ?hactz⟩, ?hmeaz⟩
                case hactz =>
                  rw [HGN.out, HC1'.out]
                case hmeaz => simp [intOf] <;> omega
                case hrelz =>
                  rw [HGN.out]
                  exact ⟨st2, lb2, hq, HNL3.out⟩
              --D>
  · have HEX : Hid (chgR x.m y.m l = (0, er)) := (by show _ = _; unfold chgR; rw [if_neg (by rw [← HR.out]; exact h0), ← HR.out] : _)
    have hQ : (er != 0) = true := by simp; exact h0
    go_wp2_with (first | (go_at_call 40; refine (HC.out _ (by (repeat (first | exact Below.refl _ _ | assumption | (refine Below.alloc ?_ (by first | omega | (simp; omega) | (simp; done)) _) | (refine Below.setCell ?_ (by first | omega | (simp; omega) | (simp; done)) _) | (refine Below.drew ?_) | (refine belowN ?_ _) | (refine Below.trans ?_ (Below.mono ‹Below _ _ _› (by first | omega | (simp; omega) | (simp; done))))))) _ (Blk.new V _ _)).mono ?_; rintro _ w1 ⟨rfl, hb1⟩; refine Hid.out ?_) | fail)
    have hb1V : Below V.heap.size V w1 := ((Below.refl _ V).alloc (Nat.le_refl _) _).trans (hb1.mono (by simp))
    have hV1 := bl2 hV hb1V
    clear hb1 hb1V
    refine Lib.hid ?_
    go_wp2_with fail
    refine marks_ret0 (v := .tuple #[.int .i64 0, .int .i64 er]) rfl (by simp [results, Try.results21, go_sem]) ?_
    rw [HEX.out]
    exact ⟨rfl, hV1⟩
end Go.Proofs.Ytiikkcifdhcejaa

/- habit: the law HabitAll. -/
import Derived.Test.YtiikkcifdhcejaaWs
import Derived.Test.YtiikkcifdhcejaaZ28Fk
namespace Go.Proofs.Ytiikkcifdhcejaa
open Go.RowKit

theorem outs_at (kd : Int) (A : Option Addr) (c : Nat) (rows : List LL) (af : Int) (h : 0 < rows.length) : (Md.m ⟨kd, A, c, rows, af⟩).outs = rows[0].l.length := by
  rw [outs_eq]
  cases rows with
  | nil => simp at h
  | cons r t => rfl
theorem ownS {w : World} {b : Nat} {e : TypeId} {size : Nat} {v : Value} {n : Nat} {xs : List Value} (h : w.ownsRow b e size v n xs) : ∃ A c, v = .slice A n c := by
  rcases h.2 with ⟨h1, h2⟩ | ⟨g, cap, cur, h1, _⟩
  · exact ⟨none, 0, by rw [h1, h2]⟩
  · exact ⟨_, _, h1⟩
set_option maxRecDepth 100000 in
set_option maxHeartbeats 4000000 in
theorem lwall0_any (kd : Int) (A : Option Addr) (c : Nat) (rows : List LL) (af : Int) (cs : Int) (w : World) (hr : Lists w w.heap.size A rows) (hn : ∀ r ∈ rows, r.a = none → r.c = 0) (hc0 : 0 ≤ cs) (hc1 : cs ≤ 255) :
    Calls Try.prog 9 #[.agg #[.int .i64 kd, .slice A rows.length c, .int .i64 af], .int .u8 cs] w fun e w' => e = .returned (.bool true) ∧ Below w.heap.size w w' := by
  obtain ⟨i0', hInf, iz0, iz1, iz2⟩ := info_parts infoInt
  obtain ⟨la, hla⟩ : ∃ q, q = largeB (⟨kd, A, c, rows, af⟩ : Md).m := ⟨_, rfl⟩
  have HLA : Hid (∀ W, Below w.heap.size w W → Calls Try.prog 11 #[.agg #[.int .i64 kd, .slice A rows.length c, .int .i64 af]] W fun e w' => e = .returned (.bool la) ∧ Below W.heap.size W w') := Lib.hid fun W hW => by rw [hla]; exact llarge_any ⟨kd, A, c, rows, af⟩ W ((hr.below hW).more hW.size)
  have HR := Lib.hid hr; have HN := Lib.hid hn; have HLL := Lib.hid hla
  obtain ⟨n, hnn⟩ : ∃ n : Nat, (n : Int) = cs % 5 := ⟨(cs % 5).toNat, by omega⟩
  have hn4 : n ≤ 4 := by omega
  have HNN := Lib.hid hnn
  clear hr hn hla hnn
  go_enter Try.func9, Try.ntmps9
  go_upto_region 1 with fail
  obtain ⟨b3, hb3⟩ : ∃ q, q = w.heap.size := ⟨_, rfl⟩
  rw [← hb3]
  refine gen_w (fun W => Blk W b3 #[.int .i64 kd, .slice A rows.length c, .int .i64 af] 25 ∧ Below w.heap.size w W) ⟨Blk.at_ hb3, by (repeat (first | exact Below.refl _ _ | assumption | (refine Below.alloc ?_ (by first | omega | (simp; omega) | (simp; done)) _) | (refine Below.setCell ?_ (by first | omega | (simp; omega) | (simp; done)) _) | (refine Below.drew ?_) | (refine belowN ?_ _) | (refine Below.trans ?_ (Below.mono ‹Below _ _ _› (by first | omega | (simp; omega) | (simp; done))))))⟩ ?_
  rintro V ⟨g, hw⟩
  have hwb : w.heap.size ≤ b3 := by omega
  clear hb3
  (have z0 := g.cell 0; have z1 := g.cell 1; have z2 := g.cell 2; simp at z0 z1 z2)
  go_upto_region 2 with fail
  rw [← HNN.out]
  cases la with
  | true =>
    go_wp2_with (first | (go_at_call 11; (with_reducible refine (HLA.out _ hw).mono ?_); rintro _ w1 ⟨rfl, hb1⟩; have g := g.below hb1 g.lt; have hw := bl2 hw hb1; clear z0 z1 z2; (have z0 := g.cell 0; have z1 := g.cell 1; have z2 := g.cell 2; simp at z0 z1 z2); (try have hcell := HCL.out _ hw)) | (go_at_call 12; refine (known_any _).mono ?_; rintro _ w9 ⟨rfl, hb9⟩; have hw := bl2 hw hb9) | fail)
    go_ret
    exact ⟨rfl, hw⟩
  | false =>
  have HRL : Hid (rows.length ≤ 40 ∧ ∀ r ∈ rows, r.l.length ≤ 40) := Lib.hid (by
    have h9 := HLL.out.symm
    unfold largeB Md.m at h9
    simp only [Bool.or_eq_false_iff, decide_eq_false_iff_not, List.any_map, List.any_eq_false, List.length_map] at h9
    exact ⟨by omega, fun r hr => by have := h9.2 r hr; simp at this; omega⟩)
  by_cases h0 : rows.length = 0
  · have hQ : ((rows.length : Int) == 0) = true := by rw [beq_iff_eq]; omega
    clear h0
    go_wp2_with (first | (go_at_call 11; (with_reducible refine (HLA.out _ hw).mono ?_); rintro _ w1 ⟨rfl, hb1⟩; have g := g.below hb1 g.lt; have hw := bl2 hw hb1; clear z0 z1 z2; (have z0 := g.cell 0; have z1 := g.cell 1; have z2 := g.cell 2; simp at z0 z1 z2); (try have hcell := HCL.out _ hw)) | (go_at_call 12; refine (known_any _).mono ?_; rintro _ w9 ⟨rfl, hb9⟩; have hw := bl2 hw hb9) | fail)
    go_ret
    exact ⟨rfl, hw⟩
  have hQ : ((rows.length : Int) == 0) = false := beq_eq_false_iff_ne.2 (by omega)
  have hpos : 0 < rows.length := by omega
  obtain ⟨ab, ao, hae, hblk, hcell, hsl⟩ := (HR.out.below hw).at_ hpos
  rw [Nat.add_zero] at hcell
  obtain ⟨r0, hr0⟩ : ∃ r, r = rows[0] := ⟨_, rfl⟩
  rw [← hr0] at hcell hsl
  have HR0 := Lib.hid hr0
  subst hae
  have HCL : Hid (∀ W, Below w.heap.size w W → W.cell? ⟨ab, ao, none⟩ = some (.slice r0.a r0.l.length r0.c)) := Lib.hid fun W hW => by
    obtain ⟨ab', ao', hae', _, hc', _⟩ := (HR.out.below hW).at_ hpos
    cases hae'
    rw [Nat.add_zero, ← HR0.out] at hc'
    exact hc'
  have hcell := HCL.out _ hw
  clear hr0 h0
  by_cases h4 : 4 < r0.l.length
  · have hQ4 : decide ((4 : Int) < (r0.l.length : Int)) = true := by simp; omega
    go_wp2_with (first | (go_at_call 11; (with_reducible refine (HLA.out _ hw).mono ?_); rintro _ w1 ⟨rfl, hb1⟩; have g := g.below hb1 g.lt; have hw := bl2 hw hb1; clear z0 z1 z2; (have z0 := g.cell 0; have z1 := g.cell 1; have z2 := g.cell 2; simp at z0 z1 z2); (try have hcell := HCL.out _ hw)) | (go_at_call 12; refine (known_any _).mono ?_; rintro _ w9 ⟨rfl, hb9⟩; have hw := bl2 hw hb9) | fail)
    go_ret
    exact ⟨rfl, hw⟩
  have hQ4 : decide ((4 : Int) < (r0.l.length : Int)) = false := by simp; omega
  by_cases h5 : r0.l.length = 0
  · have hQ5 : ((r0.l.length : Int) == 0) = true := by rw [beq_iff_eq]; omega
    clear h5
    go_wp2_with (first | (go_at_call 11; (with_reducible refine (HLA.out _ hw).mono ?_); rintro _ w1 ⟨rfl, hb1⟩; have g := g.below hb1 g.lt; have hw := bl2 hw hb1; clear z0 z1 z2; (have z0 := g.cell 0; have z1 := g.cell 1; have z2 := g.cell 2; simp at z0 z1 z2); (try have hcell := HCL.out _ hw)) | (go_at_call 12; refine (known_any _).mono ?_; rintro _ w9 ⟨rfl, hb9⟩; have hw := bl2 hw hb9) | fail)
    go_ret
    exact ⟨rfl, hw⟩
  have hQ5 : ((r0.l.length : Int) == 0) = false := beq_eq_false_iff_ne.2 (by omega)
  have HOA := Lib.hid (fun W (hW : Below w.heap.size w W) => lown_any ⟨kd, some ⟨ab, ao, none⟩, c, rows, af⟩ W ⟨(HR.out.below hW).more hW.size, Nat.le_trans HRL.out.1 (by omega), fun r hr => Nat.le_trans (HRL.out.2 r hr) (by omega)⟩ HN.out)
  obtain ⟨er, her⟩ : ∃ e, e = modE (⟨kd, some ⟨ab, ao, none⟩, c, rows, af⟩ : Md).m := ⟨_, rfl⟩
  have HCK : Hid (∀ W (y : Md), y.m = (⟨kd, some ⟨ab, ao, none⟩, c, rows, af⟩ : Md).m → y.reads W W.heap.size → Calls Try.prog 23 #[.agg #[.int .i64 y.kind, .slice y.a y.rows.length y.c, .int .i64 y.after]] W fun e w' => e = .returned (.int .i64 er) ∧ Below W.heap.size W w') := Lib.hid fun W y h1 h2 => by
    rw [her, ← h1]; exact checkM_of y W h2
  have HER := Lib.hid her
  clear her h5 h4
  by_cases h6 : er = 0
  · subst h6
    go_upto_region 4 with (first | (go_at_call 11; (with_reducible refine (HLA.out _ hw).mono ?_); rintro _ w1 ⟨rfl, hb1⟩; have g := g.below hb1 g.lt; have hw := bl2 hw hb1; clear z0 z1 z2; (have z0 := g.cell 0; have z1 := g.cell 1; have z2 := g.cell 2; simp at z0 z1 z2); (try have hcell := HCL.out _ hw)) | (go_at_call 12; refine (known_any _).mono ?_; rintro _ w9 ⟨rfl, hb9⟩; have hw := bl2 hw hb9) | (go_at_call 14; (with_reducible refine (HOA.out _ hw).mono ?_); rintro _ w2 ⟨y, rfl, hy, hyr, hb2⟩; have g := g.below hb2 g.lt; have hw := bl2 hw hb2; clear z0 z1 z2; (have z0 := g.cell 0; have z1 := g.cell 1; have z2 := g.cell 2; simp at z0 z1 z2); (try have hcell := HCL.out _ hw)) | (go_at_call 23; (with_reducible refine (HCK.out _ _ hy hyr).mono ?_); rintro _ w3 ⟨rfl, hb3⟩; have g := g.below hb3 g.lt; have hw := bl2 hw hb3; clear z0 z1 z2; (have z0 := g.cell 0; have z1 := g.cell 1; have z2 := g.cell 2; simp at z0 z1 z2); (try have hcell := HCL.out _ hw)) | fail)
    refine gen_w (fun W => Blk W b3 #[.int .i64 kd, .slice (some ⟨ab, ao, none⟩) rows.length c, .int .i64 af] 25 ∧ Below w.heap.size w W) ⟨g, hw⟩ ?_
    clear g hw z0 z1 z2 hcell hyr hsl
    rintro V1 ⟨g, hw⟩
    (have z0 := g.cell 0; have z1 := g.cell 1; have z2 := g.cell 2; simp at z0 z1 z2)
    have hcell := HCL.out _ hw
    go_wp2_with fail
    go_loop [6] (fun iv => ∃ i : Nat, i ≤ rows.length ∧ iv = .int .i64 i ∧ Hid (∀ r ∈ rows.take i, ∀ x ∈ r.l, x ≤ 12)) (fun i => rows.length - (intOf i).toNat)
    case atStart => exact ⟨0, by omega, rfl, Lib.hid (fun r hr => by simp at hr)⟩
    case round =>
      obtain ⟨i, hi, rfl, H12⟩ := hrel
      by_cases hlt : i < rows.length
      · have i0 : (0 : Int) ≤ (i : Int) := by omega
        have i1 : (i : Int) < (rows.length : Int) := by omega
        have i2 := HRL.out.1
        have i3 : (i : Int) ≤ 40 := by omega
        obtain ⟨ab', ao', hae', hblk', hcell', hsl'⟩ := (HR.out.below hw).at_ hlt
        cases hae'
        obtain ⟨r, hre⟩ : ∃ r, r = rows[i] := ⟨_, rfl⟩
        rw [← hre] at hcell' hsl'
        have HRE := Lib.hid hre
        have hr40 : r.l.length ≤ 40 := HRL.out.2 r (by rw [hre]; exact List.getElem_mem hlt)
        have HSL := Lib.hid hsl'
        clear hre hsl'
        go_wp2_with fail
        go_loop [7] (fun jv => ∃ j : Nat, j ≤ r.l.length ∧ jv = .int .i64 j ∧ Hid (∀ x ∈ r.l.take j, x ≤ 12)) (fun j => r.l.length - (intOf j).toNat)
        case atStart => exact ⟨0, by omega, rfl, Lib.hid (fun x hx => by simp at hx)⟩
        case round =>
          obtain ⟨j, hj, rfl, H12j⟩ := hrel
          by_cases hlj : j < r.l.length
          · have j0 : (0 : Int) ≤ (j : Int) := by omega
            have j1 : (j : Int) < (r.l.length : Int) := by omega
            have j3 : (j : Int) ≤ 40 := by omega
            obtain ⟨b2, f2, he2, hbb2, hc2⟩ := HSL.out.int_at hlj
            rw [he2] at hcell'
            obtain ⟨v, hv⟩ : ∃ v, v = r.l[j] := ⟨_, rfl⟩
            rw [← hv] at hc2
            have HV := Lib.hid hv
            clear hv he2
            by_cases h12 : 12 < v
            · have hQ7 : decide (12 < v) = true := by simpa using h12
              go_wp2_with (first | (go_at_call 12; refine (known_any _).mono ?_; rintro _ w9 ⟨rfl, hb9⟩; have hw := bl2 hw hb9) | fail)
              go_ret
              exact ⟨rfl, hw⟩
            · have hQ7 : decide (12 < v) = false := by simp; omega
              go_wp2_with (first | (go_at_call 12; refine (known_any _).mono ?_; rintro _ w9 ⟨rfl, hb9⟩; have hw := bl2 hw hb9) | fail)
              go_round
              case rel =>
                refine ⟨j + 1, by omega, by go_num, Lib.hid fun x hx => ?_⟩
                rw [List.take_succ_eq_append_getElem hlj, List.mem_append, List.mem_singleton, ← HV.out] at hx
                rcases hx with hx | rfl
                · exact H12j.out x hx
                · omega
              case measure => simp [intOf]; omega
          · obtain rfl : j = r.l.length := by omega
            have H12r : Hid (∀ q ∈ rows.take (i + 1), ∀ x ∈ q.l, x ≤ 12) := Lib.hid fun q hq => by
              rw [List.take_succ_eq_append_getElem hlt, List.mem_append, List.mem_singleton, ← HRE.out] at hq
              rcases hq with hq | rfl
              · exact H12.out q hq
              · have := H12j.out; rw [List.take_length] at this; exact this
            go_wp2_with fail
            go_round
            case rel => exact ⟨i + 1, by omega, by go_num, H12r⟩
            case measure => simp [intOf]; omega
      · obtain rfl : i = rows.length := by omega
        have HA12 : Hid (∀ r ∈ rows, ∀ x ∈ r.l, x ≤ 12) := by have := H12.out; rw [List.take_length] at this; exact Lib.hid this
        have HMO : Hid (ModOk (⟨kd, some ⟨ab, ao, none⟩, c, rows, af⟩ : Md).m) := Lib.hid (by
          have h9 := HER.out
          unfold modE at h9
          split at h9
          · rename_i h8; exact modB_iff.1 h8
          · exact absurd h9 (by decide))
        obtain ⟨o, ho⟩ : ∃ o, o = r0.l.length := ⟨_, rfl⟩
        have HMU : Hid ((⟨kd, some ⟨ab, ao, none⟩, c, rows, af⟩ : Md).m.outs = o) := Lib.hid (by
          rw [outs_at _ _ _ _ _ hpos, ho, HR0.out])
        have ho4 : o ≤ 4 := by have := of_decide_eq_false hQ4; omega
        have ho1 : 1 ≤ o := by rw [← HMU.out]; exact HMO.out.n1
        obtain ⟨m, hm⟩ : ∃ m, m = (⟨kd, some ⟨ab, ao, none⟩, c, rows, af⟩ : Md).m := ⟨_, rfl⟩
        have HM12 : Hid (∀ r ∈ m.rows, ∀ x ∈ r, x ≤ 12) := Lib.hid fun r hr => by
          rw [hm] at hr
          obtain ⟨q, hq, rfl⟩ := List.mem_map.1 hr
          exact HA12.out q hq
        rw [← hm] at HMO HMU
        have HMQ := Lib.hid hm
        clear hm HCK HLA HLL HER H12 HA12
        go_upto_region 12 with fail
        go_quiet (fail)
        rw [← ho]
        clear ho
        clear hcell hQ hQ4 hQ5
        go_wp2_with fail
        go_loopw [8, 10] (fun av iv W => ∃ i : Nat, i ≤ n ∧ iv = .int .i64 i ∧ av = .int .i64 ((o ^ i : Nat) : Int) ∧ Blk W b3 #[.int .i64 kd, .slice (some ⟨ab, ao, none⟩) rows.length c, .int .i64 af] 25 ∧ Below w.heap.size w W) (fun _ i _ => n - (intOf i).toNat)
        case atStart => exact ⟨0, by omega, rfl, rfl, g.below (belowN (Below.refl _ _) _) g.lt, belowN hw _⟩
        case round =>
          clear g hw z0 z1 z2
          obtain ⟨i, hi, rfl, rfl, g, hw⟩ := hrel
          by_cases hlt : i < n
          · have i0 : (0 : Int) ≤ (i : Int) := by omega
            obtain ⟨p1, p2⟩ := pow_bd ho1 ho4 (show i ≤ n by omega) hn4
            have w1 : IntKind.i64.wrap (((o ^ i : Nat) : Int) * (o : Int)) = ((o ^ (i + 1) : Nat) : Int) := by
              obtain ⟨p3, p4⟩ := pow_bd ho1 ho4 (show i + 1 ≤ n by omega) hn4
              rw [← Int.natCast_mul, ← Nat.pow_succ]
              generalize o ^ (i + 1) = Q at p3 p4 ⊢
              exact IntWalk.i64_in _ ⟨by omega, by omega⟩
            obtain ⟨P, hP⟩ : ∃ P, P = o ^ i := ⟨_, rfl⟩
            obtain ⟨P2, hP2⟩ : ∃ P, P = o ^ (i + 1) := ⟨_, rfl⟩
            rw [← hP, ← hP2] at w1
            rw [← hP]
            have HP2 := Lib.hid hP2
            clear hP hP2 p1 p2
            go_wp2_with fail
            refine ⟨⟨i + 1, by omega, by go_num, by rw [HP2.out], g, hw⟩, ?_⟩
            simp [intOf]; omega
          · obtain rfl : n = i := by omega
            obtain ⟨p1, p2⟩ := pow_bd ho1 ho4 (Nat.le_refl n) hn4
            obtain ⟨T, hT⟩ : ∃ T, T = o ^ n := ⟨_, rfl⟩
            rw [← hT] at p1 p2 ⊢
            have HT := Lib.hid hT
            clear hT
            have HMO2 : Hid (ModOk m) := HMO
            go_upto_region 18 with fail
            obtain ⟨b5, hb5⟩ : ∃ q, q = wr.heap.size := ⟨_, rfl⟩
            have gl := g.lt
            refine gen_w (fun W => Blk W b3 #[.int .i64 kd, .slice (some ⟨ab, ao, none⟩) rows.length c, .int .i64 af] 25 ∧ Blk W b5 #[.int .i64 0, .int .i64 1] 27 ∧ Below w.heap.size w W) ⟨?_, ?_, ?_⟩ ?_
            · exact g.alloc _
            · exact Blk.at_ hb5
            · (repeat (first | exact Below.refl _ _ | assumption | (refine Below.alloc ?_ (by first | omega | (simp; omega) | (simp; done)) _) | (refine Below.setCell ?_ (by first | omega | (simp; omega) | (simp; done)) _) | (refine Below.drew ?_) | (refine belowN ?_ _) | (refine Below.trans ?_ (Below.mono ‹Below _ _ _› (by first | omega | (simp; omega) | (simp; done))))))
            rintro V2 ⟨g, g5, hw⟩
            rw [← hb5]
            have h35 : b3 < b5 := by omega
            have hl5 := g5.lt
            clear hb5 gl
            go_wp2_with fail
            go_loopw [12] (fun xv W => ∃ (x : Nat) (N D : Int), x ≤ T ∧ xv = .int .i64 x ∧ Hid (AllOk m n x N D) ∧ Blk W b3 #[.int .i64 kd, .slice (some ⟨ab, ao, none⟩) rows.length c, .int .i64 af] 25 ∧ Blk W b5 #[.int .i64 N, .int .i64 D] 27 ∧ Below w.heap.size w W) (fun xv _ => T - (intOf xv).toNat)
            case atStart => exact ⟨0, 0, 1, by omega, rfl, Lib.hid (AllOk.start m n), g, g5, hw⟩
            case round =>
              clear g g5 hw hl5
              obtain ⟨x, N, D, hx, rfl, HAL, g, g5, hw⟩ := hrel
              by_cases hlt : x < T
              · obtain ⟨N', D', c1, c2, c3⟩ := all_ch HMO.out (by rw [HMU.out]; exact ho4) HM12.out hn4 x
                rw [HMU.out] at c1
                have HCH : Hid (∀ W (y : Md) B k, y.m = m → y.reads W W.heap.size → Sl intCell 1 W W.heap.size B (digL o n x) → Calls Try.prog 24 #[.agg #[.int .i64 y.kind, .slice y.a y.rows.length y.c, .int .i64 y.after], .slice B n k] W fun e w' => e = .returned (.tuple #[.agg #[.int .i64 N', .int .i64 D'], .int .i64 0]) ∧ Below W.heap.size W w') := Lib.hid fun W y B k h1 h2 h3 => by
                  have := chanF_any y (digL o n x) B k W (by rw [digL_len]; omega) h2 h3
                  rw [h1, c1, digL_len] at this
                  exact this
                obtain ⟨⟨N2, D2, E2⟩, hres⟩ : ∃ q, q = eitherR ⟨N, D⟩ ⟨N', D'⟩ := ⟨_, rfl⟩
                have HEI : Hid (∀ W, Calls Try.prog 36 #[.agg #[.int .i64 N, .int .i64 D], .agg #[.int .i64 N', .int .i64 D']] W (RetC (N2, D2, E2) W)) := Lib.hid fun W => by rw [hres]; exact either_any ⟨N, D⟩ ⟨N', D'⟩ W
                have HST : Hid (E2 = 10 ∨ (E2 = 0 ∧ AllOk m n (x + 1) N2 D2)) := Lib.hid (by
                  rcases HAL.out.step HMO.out (by rw [HMU.out, ← HT.out]; exact hlt) c2 c3 with h | ⟨N3, D3, h1, h2⟩
                  · left; rw [← hres] at h; exact h
                  · right; rw [← hres] at h1; cases h1; exact ⟨rfl, h2⟩)
                have x0 : (0 : Int) ≤ (x : Int) := by omega
                have x1 : (x : Int) < (T : Int) := by omega
                have hl5 := g5.lt
                have hsz := hw.size
                obtain ⟨B0, hB0⟩ : ∃ q, q = wr.heap.size := ⟨_, rfl⟩
                have hszw : w.heap.size ≤ B0 := by rw [hB0]; exact hw.size
                have h5B : b5 < B0 := by rw [hB0]; exact g5.lt
                clear c1 c2 c3 hres HAL
                have HOM := Lib.hid (World.ownsRow_made (e := 3) (size := 1) wr #[] 0 (base := wr.heap.size) (Nat.le_refl _) (by simp) (by simp))
                go_wp2_with fail
                go_loopw [13, 14, 15] (fun lv iv yv W => ∃ (i : Nat) (Ap : Option Addr) (cp : Nat), i ≤ n ∧ iv = .int .i64 i ∧ yv = .int .i64 ((x / o ^ i : Nat) : Int) ∧ lv = .slice Ap i cp ∧ Hid (W.ownsRow B0 3 1 (.slice Ap i cp) i ((digL o i x).map (Value.int .i64))) ∧ B0 ≤ W.heap.size ∧ Blk W b3 #[.int .i64 kd, .slice (some ⟨ab, ao, none⟩) rows.length c, .int .i64 af] 25 ∧ Blk W b5 #[.int .i64 N, .int .i64 D] 27 ∧ Below w.heap.size w W) (fun _ iv _ _ => n - (intOf iv).toNat)
                case atStart =>
                  refine ⟨0, _, _, by omega, rfl, by simp, rfl, ?_, by simp; omega, g.alloc _, g5.alloc _, hw.alloc hw.size _⟩
                  rw [hB0]
                  exact Lib.hid (by simpa [digL] using HOM.out)
                case round =>
                  clear g g5 hw hl5 hsz HOM hB0
                  obtain ⟨i, Ap, cp, hin, rfl, rfl, rfl, HOW, hB1, g, g5, hw⟩ := hrel
                  have hsz := hw.size
                  have hl3 := g.lt
                  have hl5 := g5.lt
                  by_cases hli : i < n
                  · obtain ⟨p1, p2⟩ := pow_bd ho1 ho4 (show i ≤ n by omega) hn4
                    have HDS := Lib.hid (digL_snoc o i x)
                    have hzz : x / o ^ (i + 1) = x / o ^ i / o := by rw [Nat.pow_succ, Nat.div_div_eq_div_mul]
                    have hyx : x / o ^ i ≤ x := Nat.div_le_self _ _
                    obtain ⟨y, hy⟩ : ∃ y, y = x / o ^ i := ⟨_, rfl⟩
                    rw [← hy] at HDS hzz hyx ⊢
                    have hdo : y % o < o := Nat.mod_lt y ho1
                    have hzy : y / o ≤ y := Nat.div_le_self _ _
                    obtain ⟨d, hd⟩ : ∃ d, d = y % o := ⟨_, rfl⟩
                    obtain ⟨z, hz⟩ : ∃ z, z = y / o := ⟨_, rfl⟩
                    have e1 : (y : Int) % (o : Int) = (d : Int) := by rw [hd]; exact (Int.natCast_emod y o).symm
                    have e2 : (y : Int) / (o : Int) = (z : Int) := by rw [hz]; exact (Int.natCast_ediv y o).symm
                    rw [← hd] at HDS hdo
                    rw [← hz] at hzz hzy
                    have HZ := Lib.hid hzz
                    have y0 : (0 : Int) ≤ (y : Int) := by omega
                    have hqo : ((o : Int) == 0) = false := beq_eq_false_iff_ne.2 (by omega)
                    have o0 : (0 : Int) < (o : Int) := by omega
                    have i0 : (0 : Int) ≤ (i : Int) := by omega
                    have hwB := hszw
                    have HG := Lib.hid g; have HG5 := Lib.hid g5; have HW := Lib.hid hw
                    clear hy hd hz hzz p1 p2 g g5 hw
                    go_wp2_with (at_builtin; go_loud (refine wpList_append_own _ rfl _ _ 30 rfl B0 3 i0' (.int .i64 0) 1 8 uInts hInf iz0 iz1 iz2 rfl (by decide) _ _ _ rfl (HOW.out.alloc _) ⟨wr.heap.size, 0, none⟩ 1 1 [.int .i64 (d : Int)] rfl rfl (cell_one_new _ _ _) (by simp [Value.oneCell']) (by unfold maxLen; omega) (by omega) (by simp; omega) ?_); intro v' w1 hown1 hgrow _; refine Hid.out ?_; obtain ⟨Ap', cp', rfl⟩ := ownS hown1; have HO2 := Lib.hid hown1; have HB2 : Hid (Below w.heap.size w w1) := (HW.out.alloc HW.out.size _).grown hgrow (by have := HW.out.size; simp; omega) (fun g hg => by have := (HOW.out.lt g hg).1; omega); have HG2 := Lib.hid ((HG.out.alloc (.cells #[.int .i64 (d : Int)] 3)).grown hgrow (fun hg => by have := (HOW.out.lt _ hg.symm).1; omega)); have HG3 := Lib.hid ((HG5.out.alloc (.cells #[.int .i64 (d : Int)] 3)).grown hgrow (fun hg => by have := (HOW.out.lt _ hg.symm).1; omega)); have HGR : Hid (wr.heap.size ≤ w1.heap.size) := (by have := hgrow.size; simp at this; exact Lib.hid (by omega)); clear hown1 hgrow; refine Lib.hid ?_)
                    refine ⟨⟨i + 1, Ap', cp', by omega, by go_num, by rw [HZ.out], rfl, ?_, by have := HGR.out; omega, HG2.out, HG3.out, HB2.out⟩, ?_⟩
                    · rw [HDS.out, List.map_append]; exact HO2
                    · simp [intOf]; omega
                  · obtain rfl : n = i := by omega
                    have hln := digL_len o n x
                    obtain ⟨A9, c9, e9, hs9, _, _⟩ := sl_of_ownK (l := digL o n x) (by rw [flat_int, hln]; exact HOW.out)
                    rw [hln] at e9
                    cases e9
                    obtain ⟨L, hL⟩ : ∃ L, L = digL o n x := ⟨_, rfl⟩
                    rw [← hL] at hs9 HCH
                    have z0 := g.cell 0; have z1 := g.cell 1; have z2 := g.cell 2
                    simp at z0 z1 z2
                    have hsl := hs9
                    clear hs9 hL hln HOW
                    go_upto_region 28 with (first | (go_at_call 14; (with_reducible refine (HOA.out _ hw).mono ?_); rintro _ w2 ⟨y, rfl, hy, hyr, hb2⟩; have g := g.below hb2 g.lt; have g5 := g5.below hb2 g5.lt; have hw := bl2 hw hb2; have hsl := (hsl.below hb2).more hb2.size; rw [← HMQ.out] at hy) | (go_at_call 24; (with_reducible refine (HCH.out _ y _ _ hy hyr hsl).mono ?_); rintro _ w3 ⟨rfl, hb3⟩; have g := g.below hb3 g.lt; have g5 := g5.below hb3 g5.lt; have hw := bl2 hw hb3) | fail)
                    obtain ⟨b6, hb6⟩ : ∃ q, q = w3.heap.size := ⟨_, rfl⟩
                    have gl5 := g5.lt
                    refine gen_w (fun W => Blk W b3 #[.int .i64 kd, .slice (some ⟨ab, ao, none⟩) rows.length c, .int .i64 af] 25 ∧ Blk W b5 #[.int .i64 N, .int .i64 D] 27 ∧ Blk W b6 #[.int .i64 N', .int .i64 D'] 27 ∧ Below w.heap.size w W) ⟨g.alloc _, g5.alloc _, Blk.at_ hb6, by (repeat (first | exact Below.refl _ _ | assumption | (refine Below.alloc ?_ (by first | omega | (simp; omega) | (simp; done)) _) | (refine Below.setCell ?_ (by first | omega | (simp; omega) | (simp; done)) _) | (refine Below.drew ?_) | (refine belowN ?_ _) | (refine Below.trans ?_ (Below.mono ‹Below _ _ _› (by first | omega | (simp; omega) | (simp; done))))))⟩ ?_
                    have h56 : b5 < b6 := by omega
                    clear g g5 hw hsl hyr hb3 gl5
                    rw [← hb6]
                    clear hb6 z0 z1 z2 hsz hl3 hl5
                    rintro V3 ⟨g, g5, g6, hw⟩
                    have z0 := g5.cell 0; have z1 := g5.cell 1; have y0 := g6.cell 0; have y1 := g6.cell 1
                    simp at z0 z1 y0 y1
                    have hl6 := g6.lt
                    go_upto_region 31 with (first | (go_at_call 36; (with_reducible refine (HEI.out _).mono ?_); rintro _ w4 ⟨rfl, hb4⟩; have g := g.below hb4 g.lt; have g5 := g5.below hb4 g5.lt; have g6 := g6.below hb4 g6.lt; have hw := bl2 hw hb4) | fail)
                    obtain ⟨b7, hb7⟩ : ∃ q, q = w4.heap.size := ⟨_, rfl⟩
                    have gl5 := g5.lt
                    refine gen_w (fun W => Blk W b3 #[.int .i64 kd, .slice (some ⟨ab, ao, none⟩) rows.length c, .int .i64 af] 25 ∧ Blk W b5 #[.int .i64 N, .int .i64 D] 27 ∧ Blk W b7 #[.int .i64 N2, .int .i64 D2] 27 ∧ Below w.heap.size w W) ⟨g.alloc _, g5.alloc _, Blk.at_ hb7, by (repeat (first | exact Below.refl _ _ | assumption | (refine Below.alloc ?_ (by first | omega | (simp; omega) | (simp; done)) _) | (refine Below.setCell ?_ (by first | omega | (simp; omega) | (simp; done)) _) | (refine Below.drew ?_) | (refine belowN ?_ _) | (refine Below.trans ?_ (Below.mono ‹Below _ _ _› (by first | omega | (simp; omega) | (simp; done))))))⟩ ?_
                    have h57 : b5 < b7 := by omega
                    clear g g5 hw hb4 gl5
                    rw [← hb7]
                    clear hb7 z0 z1 y0 y1 hl6 g6
                    rintro V4 ⟨g, g5, g7, hw⟩
                    have y0 := g7.cell 0; have y1 := g7.cell 1
                    have f0 := g5.free 0; have f1 := g5.free 1
                    have z0 := g5.cell 0; have z1 := g5.cell 1
                    simp at y0 y1 z0 z1
                    have hl7 := g7.lt
                    rcases HST.out with rfl | ⟨rfl, hal⟩
                    · go_wp2_with (first | (go_at_call 12; refine (known_any _).mono ?_; rintro _ w9 ⟨rfl, hb9⟩; have hw := bl2 hw hb9) | fail)
                      go_ret
                      exact ⟨rfl, hw⟩
                    · have HAL2 := Lib.hid hal
                      have gg := (g5.set 0 (.int .i64 N2)).set 1 (.int .i64 D2)
                      simp at gg
                      have HGG := Lib.hid gg
                      have HG := Lib.hid ((g.far ⟨b5, 0, none⟩ (by show b3 ≠ b5; omega) (.int .i64 N2)).far ⟨b5, 1, none⟩ (by show b3 ≠ b5; omega) (.int .i64 D2))
                      have HW := Lib.hid ((hw.setCell (p := ⟨b5, 0, none⟩) (by show w.heap.size ≤ b5; omega) (.int .i64 N2)).setCell (p := ⟨b5, 1, none⟩) (by show w.heap.size ≤ b5; omega) (.int .i64 D2))
                      clear gg hal HST g hw
                      go_wp2_with fail
                      refine ⟨⟨x + 1, N2, D2, by omega, by go_num, HAL2, HG.out, HGG.out, HW.out⟩, ?_⟩
                      simp [intOf]; omega
              · obtain rfl : x = T := by omega
                obtain ⟨rfl, rfl⟩ := AllOk.end_ HMO.out (by rw [HMU.out, ← HT.out]; exact HAL.out)
                have z0 := g5.cell 0; have z1 := g5.cell 1
                simp at z0 z1
                go_wp2_with (first | (go_at_call 12; refine (known_any _).mono ?_; rintro _ w9 ⟨rfl, hb9⟩; have hw := bl2 hw hb9) | fail)
                go_ret
                exact ⟨rfl, hw⟩
  · have hQ6 : (er != 0) = true := by simp; exact h6
    go_wp2_with (first | (go_at_call 11; (with_reducible refine (HLA.out _ hw).mono ?_); rintro _ w1 ⟨rfl, hb1⟩; have g := g.below hb1 g.lt; have hw := bl2 hw hb1; clear z0 z1 z2; (have z0 := g.cell 0; have z1 := g.cell 1; have z2 := g.cell 2; simp at z0 z1 z2); (try have hcell := HCL.out _ hw)) | (go_at_call 12; refine (known_any _).mono ?_; rintro _ w9 ⟨rfl, hb9⟩; have hw := bl2 hw hb9) | (go_at_call 14; (with_reducible refine (HOA.out _ hw).mono ?_); rintro _ w2 ⟨y, rfl, hy, hyr, hb2⟩; have g := g.below hb2 g.lt; have hw := bl2 hw hb2; clear z0 z1 z2; (have z0 := g.cell 0; have z1 := g.cell 1; have z2 := g.cell 2; simp at z0 z1 z2); (try have hcell := HCL.out _ hw)) | (go_at_call 23; (with_reducible refine (HCK.out _ _ hy hyr).mono ?_); rintro _ w3 ⟨rfl, hb3⟩; have g := g.below hb3 g.lt; have hw := bl2 hw hb3; clear z0 z1 z2; (have z0 := g.cell 0; have z1 := g.cell 1; have z2 := g.cell 2; simp at z0 z1 z2); (try have hcell := HCL.out _ hw)) | fail)
    go_ret
    exact ⟨rfl, hw⟩
theorem lwall_any (x : Md) (cs : Int) (w : World) (hr : Lists w w.heap.size x.a x.rows) (hn : ∀ r ∈ x.rows, r.a = none → r.c = 0) (hc0 : 0 ≤ cs) (hc1 : cs ≤ 255) :
    Calls Try.prog 9 #[.agg #[.int .i64 x.kind, .slice x.a x.rows.length x.c, .int .i64 x.after], .int .u8 cs] w fun e w' => e = .returned (.bool true) ∧ Below w.heap.size w w' := lwall0_any x.kind x.a x.c x.rows x.after cs w hr hn hc0 hc1
end Go.Proofs.Ytiikkcifdhcejaa

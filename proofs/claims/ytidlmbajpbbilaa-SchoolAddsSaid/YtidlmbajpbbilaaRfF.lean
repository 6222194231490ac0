/- The reference: Holds. -/
import Derived.Test.YtidlmbajpbbilaaRfE
namespace Go.Proofs.Ytidlmbajpbbilaa
open Go.RowKit

/-- a test that a valid school may have: its kind too -/
def TestFit3 (n : Nat) (t : Tst) : Prop := TestFit n t ∧ (t.kind = 1 ∨ t.kind = 2 ∨ t.kind = 3)
theorem tstB_fit3 {s : Sch} {t : Tst} (ht : t.ok) (hp : 1 ≤ s.places) (h : tstB s t = true) : TestFit3 s.places.toNat t := by
  refine ⟨tstB_fit ht hp h, ?_⟩
  simp only [tstB, Bool.and_eq_true, Bool.or_eq_true, beq_iff_eq, bne_iff_ne] at h
  omega
set_option maxRecDepth 100000 in
set_option maxHeartbeats 4000000 in
theorem rholds_any (A A2 : Option Addr) (c c2 : Nat) (ch : List Int) (ts : List Tst) (w : World) (n : Nat) (hn : n = ch.length) (hl : ts.length ≤ 1000000) (ho : ∀ t ∈ ts, TestFit3 n t) (hf : ∀ x ∈ ch, 0 ≤ x ∧ x ≤ 63)
    (hr : Sl Tst.cells 4 w w.heap.size A ts) (hr2 : Sl intCell 1 w w.heap.size A2 ch) :
    Calls Try.prog 71 #[.slice A ts.length c, .slice A2 ch.length c2] w fun e w' => e = .returned (.bool (holdsB ch ts)) ∧ Below w.heap.size w w' := by
  have HO := Lib.hid ho; have HF := Lib.hid hf; have HR := Lib.hid hr; have HR2 := Lib.hid hr2; have HN := Lib.hid hn
  clear ho hf hr hr2 hn
  go_enter Try.func71, Try.ntmps71
  go_wp2
  go_loopw [5] (fun i wr => ∃ j : Nat, j ≤ ts.length ∧ i = .int .i64 j ∧ Below w.heap.size w wr ∧ Hid (holdsB ch ts = (ts.drop j).all (holdB ch))) (fun i _ => ts.length - (intOf i).toNat)
  case atStart => exact ⟨0, by omega, rfl, Below.refl _ _, rfl⟩
  case round =>
    obtain ⟨j, hj, rfl, hb, HA⟩ := hrel
    have hsz := hb.size
    by_cases hlt : j < ts.length
    · obtain ⟨tb, to', rfl, htk, htcell⟩ := (HR.out.below hb).at_ (k := j) (fun _ => rfl) hlt
      have HD := Lib.hid (all_drop (p := holdB ch) hlt)
      have hft := HO.out _ (List.getElem_mem hlt)
      obtain ⟨t, ht⟩ : ∃ t, ts[j] = t := ⟨_, rfl⟩
      rw [ht] at htcell HD hft
      clear ht
      obtain ⟨⟨ht0, hp0, hp1, hq0, hq1⟩, hkk⟩ := hft
      have hu := ht0.2
      obtain ⟨tk, tp, to, tt⟩ := t
      simp only at *
      obtain ⟨p, rfl⟩ := Int.eq_ofNat_of_zero_le hp0
      obtain ⟨q, rfl⟩ := Int.eq_ofNat_of_zero_le hq0
      have hnn := HN.out
      have hpl : p < ch.length := by omega
      have hql : q < ch.length := by omega
      obtain ⟨ab, ao, rfl, hblk, hcell⟩ := (HR2.out.below hb).at_ (k := p) (fun _ => rfl) hpl
      obtain ⟨ab', ao', e, hblk', hcell'⟩ := (HR2.out.below hb).at_ (k := q) (fun _ => rfl) hql
      cases e
      have hfb := HF.out _ (List.getElem_mem hpl)
      have hgb := HF.out _ (List.getElem_mem hql)
      obtain ⟨f, hfe⟩ : ∃ t, ch[p] = t := ⟨_, rfl⟩
      obtain ⟨g, hge⟩ : ∃ t, ch[q] = t := ⟨_, rfl⟩
      have e1 : ch.getD p 0 = f := by rw [← hfe]; simp [List.getD, List.getElem?_eq_getElem hpl]
      have e2 : ch.getD q 0 = g := by rw [← hge]; simp [List.getD, List.getElem?_eq_getElem hql]
      rw [hfe] at hcell hfb
      rw [hge] at hcell' hgb
      have c0 : wr.cell? ⟨ab, ao + p, none⟩ = some (.int .i64 f) := by have := hcell 0 _ rfl; simpa using this
      have c1 : wr.cell? ⟨ab, ao + q, none⟩ = some (.int .i64 g) := by have := hcell' 0 _ rfl; simpa using this
      have E : Hid (holdB ch ⟨tk, p, q, tt⟩ = if tk == 1 then bitB tt f else if tk == 2 then f == g else f != g) := (by simp only [holdB, Int.toNat_natCast, e1, e2] : holdB ch ⟨tk, p, q, tt⟩ = _)
      have t0 : wr.cell? ⟨tb, to' + j * 4, none⟩ = some (Value.int .i64 tk) := htcell 0 _ rfl
      have t1 : wr.cell? ⟨tb, to' + j * 4 + 1, none⟩ = some (Value.int .i64 p) := htcell 1 _ rfl
      have t2 : wr.cell? ⟨tb, to' + j * 4 + 2, none⟩ = some (Value.int .i64 q) := htcell 2 _ rfl
      have t3 : wr.cell? ⟨tb, to' + j * 4 + 3, none⟩ = some (Value.int .u64 tt) := htcell 3 _ rfl
      have hpi : (p : Int) < (ch.length : Int) := by omega
      have hqi : (q : Int) < (ch.length : Int) := by omega
      have ab1 : ab < wr.heap.size := by omega
      obtain ⟨hf0, hf1⟩ := hfb
      have hbt := bit_u64 tt f hu
      have hw3 : IntKind.u64.wrap f = f := IntWalk.u64_in _ ⟨by omega, by omega⟩
      obtain ⟨hx0, hx1⟩ := hu
      clear hcell hcell' htcell hfe hge e1 e2 ht0 hgb hnn
      by_cases k1 : (tk == 1) = true
      · have k2 : (tk == 2) = false := by simp only [beq_iff_eq] at k1; simp [k1]
        have k3 : (tk == 3) = false := by simp only [beq_iff_eq] at k1; simp [k1]
        clear hkk
        by_cases f1 : bitB tt f = true
        · have HH : Hid (holdB ch ⟨tk, p, q, tt⟩ = true) := (by rw [E.out, if_pos k1, f1] : holdB ch ⟨tk, p, q, tt⟩ = true)
          rw [f1] at hbt
          have hbt : (bits BinOp.and IntKind.u64 (tt / 2 ^ f.toNat) 1 == 0) = false := hbt
          have HT : Hid (holdsB ch ts = (ts.drop (j + 1)).all (holdB ch)) := (by rw [HA.out, HD.out, HH.out]; rfl : holdsB ch ts = (ts.drop (j + 1)).all (holdB ch))
          go_wp2
          (refine wp_region_ext (by kernel_rfl) (by kernel_rfl) ?_; (repeat (go_big_quiet_step((fail)))); with_reducible refine wpQuiet_nil ?_; intro w2 hw2; have hb1 := ext_below hw2; clear hw2)
          go_wp2
          go_roundw
          case rel => exact ⟨j + 1, by omega, by go_num, (hb.alloc (by omega) _).trans (hb1.mono (by simp; omega)), HT⟩
          case measure => simp [intOf]; omega
        · simp only [Bool.not_eq_true] at f1
          have HH : Hid (holdB ch ⟨tk, p, q, tt⟩ = false) := (by rw [E.out, if_pos k1, f1] : holdB ch ⟨tk, p, q, tt⟩ = false)
          rw [f1] at hbt
          have hbt : (bits BinOp.and IntKind.u64 (tt / 2 ^ f.toNat) 1 == 0) = true := hbt
          have HT : Hid (holdsB ch ts = false) := (by rw [HA.out, HD.out, HH.out]; rfl : holdsB ch ts = false)
          go_wp2
          (refine wp_region_ext (by kernel_rfl) (by kernel_rfl) ?_; (repeat (go_big_quiet_step((fail)))); with_reducible refine wpQuiet_nil ?_; intro w2 hw2; have hb1 := ext_below hw2; clear hw2)
          go_wp2
          go_ret
          exact ⟨ret_bool HT.out.symm, (hb.alloc (by omega) _).trans (hb1.mono (by simp; omega))⟩
      · simp only [Bool.not_eq_true] at k1
        clear hbt
        by_cases k2 : (tk == 2) = true
        · have k3 : (tk == 3) = false := by simp only [beq_iff_eq] at k2; simp [k2]
          have EE : Hid (holdB ch ⟨tk, p, q, tt⟩ = (f == g)) := (by rw [E.out, k1, if_neg (by simp), if_pos k2] : holdB ch ⟨tk, p, q, tt⟩ = (f == g))
          clear hkk
          by_cases fg : (f == g) = true
          · have HH : Hid (holdB ch ⟨tk, p, q, tt⟩ = true) := (EE.out.trans fg : holdB ch ⟨tk, p, q, tt⟩ = true)
            have fg2 : (f != g) = false := by simp only [beq_iff_eq] at fg; simp [fg]
            have HT : Hid (holdsB ch ts = (ts.drop (j + 1)).all (holdB ch)) := (by rw [HA.out, HD.out, HH.out]; rfl : holdsB ch ts = (ts.drop (j + 1)).all (holdB ch))
            go_wp2
            (refine wp_region_ext (by kernel_rfl) (by kernel_rfl) ?_; (repeat (go_big_quiet_step((fail)))); with_reducible refine wpQuiet_nil ?_; intro w2 hw2; have hb1 := ext_below hw2; clear hw2)
            go_wp2
            go_roundw
            case rel => exact ⟨j + 1, by omega, by go_num, (hb.alloc (by omega) _).trans (hb1.mono (by simp; omega)), HT⟩
            case measure => simp [intOf]; omega
          · simp only [Bool.not_eq_true] at fg
            have HH : Hid (holdB ch ⟨tk, p, q, tt⟩ = false) := (EE.out.trans fg : holdB ch ⟨tk, p, q, tt⟩ = false)
            have fg2 : (f != g) = true := by simpa using fg
            have HT : Hid (holdsB ch ts = false) := (by rw [HA.out, HD.out, HH.out]; rfl : holdsB ch ts = false)
            go_wp2
            (refine wp_region_ext (by kernel_rfl) (by kernel_rfl) ?_; (repeat (go_big_quiet_step((fail)))); with_reducible refine wpQuiet_nil ?_; intro w2 hw2; have hb1 := ext_below hw2; clear hw2)
            go_wp2
            go_ret
            exact ⟨ret_bool HT.out.symm, (hb.alloc (by omega) _).trans (hb1.mono (by simp; omega))⟩
        · simp only [Bool.not_eq_true] at k2
          have k3 : (tk == 3) = true := by simp at k1 k2 ⊢; omega
          have EE : Hid (holdB ch ⟨tk, p, q, tt⟩ = (f != g)) := (by rw [E.out, k1, if_neg (by simp), k2, if_neg (by simp)] : holdB ch ⟨tk, p, q, tt⟩ = (f != g))
          clear hkk
          by_cases fg : (f == g) = true
          · have fg2 : (f != g) = false := by simp only [beq_iff_eq] at fg; simp [fg]
            have HH : Hid (holdB ch ⟨tk, p, q, tt⟩ = false) := (EE.out.trans fg2 : holdB ch ⟨tk, p, q, tt⟩ = false)
            have HT : Hid (holdsB ch ts = false) := (by rw [HA.out, HD.out, HH.out]; rfl : holdsB ch ts = false)
            go_wp2
            (refine wp_region_ext (by kernel_rfl) (by kernel_rfl) ?_; (repeat (go_big_quiet_step((fail)))); with_reducible refine wpQuiet_nil ?_; intro w2 hw2; have hb1 := ext_below hw2; clear hw2)
            go_wp2
            go_ret
            exact ⟨ret_bool HT.out.symm, (hb.alloc (by omega) _).trans (hb1.mono (by simp; omega))⟩
          · simp only [Bool.not_eq_true] at fg
            have fg2 : (f != g) = true := by simpa using fg
            have HH : Hid (holdB ch ⟨tk, p, q, tt⟩ = true) := (EE.out.trans fg2 : holdB ch ⟨tk, p, q, tt⟩ = true)
            have HT : Hid (holdsB ch ts = (ts.drop (j + 1)).all (holdB ch)) := (by rw [HA.out, HD.out, HH.out]; rfl : holdsB ch ts = (ts.drop (j + 1)).all (holdB ch))
            go_wp2
            (refine wp_region_ext (by kernel_rfl) (by kernel_rfl) ?_; (repeat (go_big_quiet_step((fail)))); with_reducible refine wpQuiet_nil ?_; intro w2 hw2; have hb1 := ext_below hw2; clear hw2)
            go_wp2
            go_roundw
            case rel => exact ⟨j + 1, by omega, by go_num, (hb.alloc (by omega) _).trans (hb1.mono (by simp; omega)), HT⟩
            case measure => simp [intOf]; omega
    · have HT : Hid (holdsB ch ts = true) := (by rw [HA.out, List.drop_eq_nil_of_le (by omega)]; rfl : holdsB ch ts = true)
      go_wp2
      go_ret
      exact ⟨ret_bool HT.out.symm, hb⟩
end Go.Proofs.Ytidlmbajpbbilaa

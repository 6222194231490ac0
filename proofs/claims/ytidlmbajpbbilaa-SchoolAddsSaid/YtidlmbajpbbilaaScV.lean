/- School: newPruner. -/
import Derived.Test.YtidlmbajpbbilaaScU
namespace Go.Proofs.Ytidlmbajpbbilaa
open Go.RowKit
attribute [local go_sem] Oper.semAt_some

/-- the rules that hold for some of the first n charts -/
def Seen (s : Sch) (n : Nat) (h : Nat) : Prop := ∃ j, j < n ∧ h = applN s (chartL s j)
def SeenK (s : Sch) (h k : Nat) : Prop := (k : Int) < s.kinds ∧ Seen s (chartsC s) h
def PrRet (s : Sch) (w : World) (e : Ending) (w' : World) : Prop :=
  ∃ p hm rm n D, e = .returned (.pointer (some ⟨p, 0, none⟩)) ∧ PrAt w' p s 0 hm rm ∧ w'.ownsMap Try.prog 149 (plainElem Try.prog 112) rm n D ∧ RM s D (SeenK s) ∧ w.heap.size ≤ p ∧ Below w.heap.size w w'
/-- the blocks of newPruner: b0 the school, b0 + 1 and b0 + 2 the maps, b0 + 3 the pruner, b0 + 4 the variable p, b0 + 5 the school of all -/
structure NI (s : Sch) (w : World) (W : World) : Prop where
  low : Below w.heap.size w W
  sz : w.heap.size + 1 + 1 + 1 + 1 + 1 < W.heap.size
  k0 : Blk W w.heap.size #[.int .i64 s.places, .int .i64 s.signs, .int .i64 s.kinds, .int .i64 s.answers, s.rv] 24
  pr : PrAt W (w.heap.size + 1 + 1 + 1) s 0 (w.heap.size + 1) (w.heap.size + 1 + 1)
  pv : Blk W (w.heap.size + 1 + 1 + 1 + 1) #[.pointer (some ⟨w.heap.size + 1 + 1 + 1, 0, none⟩)] 129
  ka : Blk W (w.heap.size + 1 + 1 + 1 + 1 + 1) #[.int .i64 s.places, .int .i64 s.signs, .int .i64 s.kinds, .int .i64 s.answers, s.rv] 24
theorem NI.stab {s : Sch} {w : World} {B : Nat} (hB : w.heap.size ≤ B) : Stab B (NI s w) := fun W W' row h hg hr =>
  ⟨Stab.low hB w (Nat.le_refl _) W W' row h.low hg hr, Nat.lt_of_lt_of_le h.sz hg.size, Stab.blk _ _ _ _ W W' row h.k0 hg hr, Stab.blk _ _ _ _ W W' row h.pr hg hr, Stab.blk _ _ _ _ W W' row h.pv hg hr, Stab.blk _ _ _ _ W W' row h.ka hg hr⟩
theorem NI.below {s : Sch} {w W W' : World} (h : NI s w W) (hb : Below W.heap.size W W') : NI s w W' := (NI.stab (Nat.le_refl _)).below h hb
theorem NI.grown {s : Sch} {w W W' : World} {b : Nat} (h : NI s w W) (hg : W.grownBy W' (some b)) (hb : b = w.heap.size + 1 ∨ b = w.heap.size + 1 + 1) : NI s w W' := by
  have hs := h.sz
  refine ⟨h.low.grown hg h.low.size (fun k e => by cases e; omega), Nat.lt_of_lt_of_le h.sz hg.size, (hg.block _ (by omega) ?_).trans h.k0, (hg.block _ (by omega) ?_).trans h.pr, (hg.block _ (by omega) ?_).trans h.pv, (hg.block _ (by omega) ?_).trans h.ka⟩ <;> (intro e; cases e; omega)
theorem Seen.succ (s : Sch) (n h : Nat) : (Seen s n h ∨ h = applN s (chartL s n)) ↔ Seen s (n + 1) h := by
  constructor
  · rintro (⟨j, hj, e⟩ | e)
    · exact ⟨j, by omega, e⟩
    · exact ⟨n, by omega, e⟩
  · rintro ⟨j, hj, e⟩
    rcases Nat.lt_succ_iff_lt_or_eq.1 hj with h1 | rfl
    · exact .inl ⟨j, h1, e⟩
    · exact .inr e
abbrev HMap (s : Sch) (w : World) (k : Nat) (W : World) : Prop := ∃ D : DW, W.ownsMap Try.prog 106 (plainElem Try.prog 4) (w.heap.size + 1) k D ∧ HM D (Seen s k)
abbrev RMap (s : Sch) (w : World) (n : Nat) (S : Nat → Nat → Prop) (W : World) : Prop := ∃ D : DW, W.ownsMap Try.prog 149 (plainElem Try.prog 112) (w.heap.size + 1 + 1) n D ∧ RM s D S
theorem HMap.stab {s : Sch} {w : World} {k B : Nat} (hB : w.heap.size + 1 < B) : Stab B (HMap s w k) := Stab.ex fun _ => (Stab.ownsMap hB).and (Stab.pure _)
theorem RMap.stab {s : Sch} {w : World} {n B : Nat} {S : Nat → Nat → Prop} (hB : w.heap.size + 1 + 1 < B) : Stab B (RMap s w n S) := Stab.ex fun _ => (Stab.ownsMap hB).and (Stab.pure _)
theorem plainElem_bool_inv {P : Program} {e : TypeId} (he : P.underlying e = some .bool) {v : Value} {z : DW × List MemPlace} (h : plainElem P e v = some z) : ∃ b, v = .bool b := by
  unfold plainElem at h
  rw [he] at h
  cases v <;> simp at h
  exact ⟨_, rfl⟩
/-- the two steps behind the rules that hold, by the whole school -/
theorem speak0 {s : Sch} (V : Valid s) {h : Nat} (hh : h < 4294967296) {k : Nat} (hk : (k : Int) < s.kinds) {W : World} (hr : s.reads W W.heap.size) :
    Calls Try.prog 56 #[rdv s s.rv 0, .int .u32 (h : Int), .int .i64 (k : Int)] W fun e w' => e = .returned (.int .u32 ((bset (mainS s (sp s (fun i => h.testBit i && !(0 : Nat).testBit i) (k : Int)) s.rules.length) s.rules.length : Nat) : Int)) ∧ Below W.heap.size W w' :=
  speak_any s s.rv rfl h 0 hh (by omega) (k : Int) (by omega) hk W V hr
set_option maxRecDepth 100000 in
set_option maxHeartbeats 4000000 in
theorem newPruner_any (s : Sch) (V : Valid s) (w : World) (hr : s.reads w w.heap.size) : Calls Try.prog 78 #[scv s s.rv] w (PrRet s w) := by
  have hmm := @run_makeMap Try.prog
  refine calls_marks Try.func78 rfl ?_
  simp only [Try.ntmps78, List.size_toArray, List.length_cons, List.length_nil, Nat.reduceAdd, Nat.reduceSub, Array.replicate_succ, Array.replicate_zero, List.push_toArray, List.append_toArray, List.nil_append, List.cons_append]
  go_wp2
  refine wp_world (fun W => W.heap.size = w.heap.size + 1 + 1 + 1 + 1 + 1 + 1 ∧ NI s w W ∧ HMap s w 0 W ∧ RMap s w 0 (fun _ _ => False) W) ?_ ?_
  · refine ⟨by simp, ⟨by (repeat (first | exact Below.refl _ _ | assumption | (refine Below.alloc ?_ (by first | omega | (simp; omega) | (simp; done)) _) | (refine Below.setCell ?_ (by first | omega | (simp; omega) | (simp; done)) _) | (refine Below.drew ?_) | (refine belowN ?_ _) | (refine Below.trans ?_ (Below.mono ‹Below _ _ _› (by first | omega | (simp; omega) | (simp; done)))))), by simp, (((((Blk.at_ (by simp)).alloc _).alloc _).alloc _).alloc _).alloc _, ((Blk.at_ (by simp)).alloc _).alloc _, (Blk.at_ (by simp)).alloc _, Blk.at_ (by simp)⟩, ⟨_, ?_, (HM.empty).congr fun x => ⟨fun h => h.elim, fun ⟨j, hj, _⟩ => by omega⟩⟩, ⟨_, ?_, RM.empty s⟩⟩
    · have := World.ownsMap_made (w.alloc (.cells #[.int .i64 s.places, .int .i64 s.signs, .int .i64 s.kinds, .int .i64 s.answers, s.rv] 24)) Try.prog 106 (plainElem (H := Unit) Try.prog 4)
      rw [World.size_alloc] at this
      exact (((this.alloc _).alloc _).alloc _).alloc _
    · have := World.ownsMap_made ((w.alloc (.cells #[.int .i64 s.places, .int .i64 s.signs, .int .i64 s.kinds, .int .i64 s.answers, s.rv] 24)).alloc (.map #[] 0)) Try.prog 149 (plainElem (H := Unit) Try.prog 112)
      rw [World.size_alloc, World.size_alloc] at this
      exact ((this.alloc _).alloc _).alloc _
  clear hmm
  rintro Wl ⟨hzl, hn0, hh0, hr0⟩
  have HRR := Lib.hid hr
  clear hr
  refine wp_rangeS (lb := #[.pointer (some ⟨w.heap.size + 1 + 1 + 1 + 1 + 1, 0, none⟩)]) rfl ent_all1 (all1_iter s s.rv (w.heap.size + 1 + 1 + 1 + 1 + 1) V.small V.charts) [(5, 1)]
    (fun k W => NI s w W ∧ HMap s w k W ∧ RMap s w 0 (fun _ _ => False) W)
    (fun _ _ => False)
    (fun k => (NI.stab (by omega)).and ((HMap.stab (by omega)).and (RMap.stab (by omega)))) (fun c => Stab.pure _) ?hE ?hD ⟨hn0, hh0, hr0⟩ ?hps ?hassign ?hbody ?hdone (fun D c W h => h.elim)
  case hE => exact fun k xs => Stab.ex fun A => Stab.ex fun c => (Stab.pure _).and (Stab.sl _ _)
  case hD => exact fun k W hi => ⟨hi.1.sz, by rw [hi.1.ka.cell]; rfl, by rw [hi.1.ka.cell]; rfl, by rw [hi.1.ka.cell]; rfl, by rw [hi.1.ka.cell]; rfl, by rw [hi.1.ka.cell]; rfl⟩
  case hps => rintro k W xs ⟨A, c, rfl, _⟩; rfl
  case hassign =>
    rintro l k xs W K ⟨A, c, rfl, _⟩ hK
    rw [round21] at hK
    rw [fold2]
    simp only [List.setIfInBounds_toArray, List.set_cons_succ, List.set_cons_zero] at hK ⊢
    gi_wp2
    exact hK
  case hbody =>
    rintro l k xs W hk ⟨hni, ⟨D, hown, hHM⟩, hrm⟩ ⟨A', c', rfl, hsl⟩ hl1 hl2
    rw [round21]
    simp only [List.setIfInBounds_toArray, List.set_cons_succ, List.set_cons_zero]
    have hbw := hni.low
    have hln : (chartL s k).length = s.places.toNat := digits_len _ _ _
    have HQ := Lib.hid (asks0 (kind := 0) (c := c') V ((HRR.out.below hbw).more hbw.size) (by omega) (by have := V.kinds; omega) hln rfl (chartL_bd V k) hsl)
    have hsz := hni.sz
    have pc := hni.pr.cell
    have p0 := pc 0; have p1 := pc 1; have p2 := pc 2; have p3 := pc 3; have p4 := pc 4; have p5 := pc 5; have p6 := pc 6
    have v0 := hni.pv.cell 0
    simp at p0 p1 p2 p3 p4 p5 p6 v0
    have HNI := Lib.hid hni; have HOWN := Lib.hid hown; have HRM := Lib.hid hrm; have HHM := Lib.hid hHM
    have hk4 : k < 4096 := by have := V.charts; omega
    have hk5 : k < 140737488355328 := by omega
    clear hni hown hrm hHM pc hsl hbw
    have l4 : w.heap.size + 1 + 1 + 1 + 1 < W.heap.size := by omega
    have l3 : w.heap.size + 1 + 1 + 1 < W.heap.size := by omega
    gi_wp2
    refine wpIn_region_tail 10 (by kernel_rfl) (by kernel_rfl) (by kernel_rfl) ?_
    simp only [List.take_succ_cons, List.take_zero, List.drop_succ_cons, List.drop_zero]
    (repeat (go_big_quiet_step ((go_at_call 57; with_reducible exact Calls.ext_of (HQ.out.apply _ (Grow.h _))))))
    with_reducible refine wpQuiet_nil ?_
    intro w1 hw1
    have hb1 := ext_below hw1
    clear hw1
    have HAP := bset_lt32 (appl s (chartL s k)) V.len
    refine wpListIn_mapUpdate_own _ rfl _ _ _ 132 rfl 106 4 keyRules Try.underlying132 (plainElem Try.prog 4) (w.heap.size + 1) k D rfl (ownsMap_below HOWN.out hb1 (by omega)) (by unfold maxLen; omega) _ _ (.int .u32 ((applN s (chartL s k) : Nat) : Int)) rfl rfl (Go.Maps.keyOf_int_mk Try.underlying106 (wfu HAP)) (.lit (.bool true)) [] (plainElem_bool Try.underlying4 true) ?_
    intro w2 hown2 hgrow2
    have hn1 := HNI.out.below hb1
    have hz1 := hb1.size
    obtain ⟨D', ho', hm'⟩ := HRM.out
    exact ⟨(keepsFrom_below hb1).trans (KeepsFrom.of_grownBy hgrow2 (fun j e => by cases e; omega)), hn1.grown hgrow2 (.inl rfl), ⟨_, hown2, (HHM.out.put _ _).congr (Seen.succ s k)⟩, D', (ownsMap_below ho' hb1 (by omega)).kept hgrow2 (by simp), hm'⟩
  case hdone =>
    rintro DD W ⟨hni, ⟨D, hown, hHM⟩, hrm⟩ hD hK
    obtain ⟨N, hN⟩ : ∃ N, N = (chartsN s.signs s.places.toNat).toNat := ⟨_, rfl⟩
    have hN4 : N ≤ 4096 := by have := V.charts; omega
    rw [← hN] at hown hHM
    have HN := Lib.hid hN
    have hcnt := ownsMap_size hown
    have hsz := hni.sz
    have pc := hni.pr.cell
    have p5 := pc 5; have p6 := pc 6; have p7 := pc 7
    have v0 := hni.pv.cell 0
    simp at p5 p6 p7 v0
    clear hN
    go_wp2_with (first | (at_range; refine wpList_range_own _ rfl _ 132 rfl 106 4 keyRules Try.underlying132 (plainElem Try.prog 4) (w.heap.size + 1) N D rfl hown ?_; intro w0 hrg0 hg0 hs0))
    go_frame
    have hb0 := Below.grown (Below.refl W.heap.size W) hg0 (Nat.le_refl _) (fun j e => by cases e)
    have HNI := Lib.hid (hni.below hb0)
    obtain ⟨rr, hrr⟩ : ∃ r, r = W.heap.size := ⟨_, rfl⟩
    rw [← hrr] at hrg0 hs0 ⊢
    have hDW : DD < rr := by rw [hrr]; exact (Array.getElem?_eq_some_iff.1 hK).1
    have hwD : w.heap.size + 1 + 1 + 1 + 1 + 1 < DD := by omega
    have HKD := Lib.hid ((hb0.block DD (by omega)).trans hK)
    have HRG := Lib.hid hrg0
    have HR0 : Hid (RMap s w 0 (fun h k => (k : Int) < s.kinds ∧ Seen s N h ∧ Go.Maps.has D (.int .u32 (h : Int)) = false) w0) := by
      obtain ⟨D', ho', hm'⟩ := hrm
      refine ⟨D', ownsMap_below ho' hb0 (by omega), hm'.congr fun h k => ⟨fun e => e.elim, fun ⟨_, h1, h2⟩ => ?_⟩⟩
      have := (hHM.2 (.int .u32 (h : Int))).2 ⟨h, h1, rfl⟩
      rw [this] at h2; cases h2
    have HHM := Lib.hid hHM
    have hk14 := V.kinds
    clear hb0 hg0 hrg0 hrr hK hni hown hHM hrm p5 p6 p7 v0 pc hn0 hh0 hr0 hD hzl
    go_loopw [6] (fun _ wr => ∃ left cnt n, Hid (wr.ranges Try.prog 106 (plainElem Try.prog 4) (w.heap.size + 1) rr N D left cnt) ∧ Hid (NI s w wr) ∧
      Hid (RMap s w n (fun h k => (k : Int) < s.kinds ∧ Seen s N h ∧ left (.int .u32 (h : Int)) = false) wr) ∧ n + 4 * cnt ≤ 16384 ∧ Hid (wr.heap[DD]? = some (.deferred (some []))) ∧ Hid (∀ kl, left kl = true → Go.Maps.has D kl = true) ∧ rr < wr.heap.size) (fun _ wr => wr.rangeLeft (w.heap.size + 1) rr)
    case atStart => exact ⟨_, _, 0, HRG, HNI, HR0, by omega, HKD, fun kl h => h, by omega⟩
    case round =>
      obtain ⟨left, cnt, n, hrg, HNIr, HRMr, hcb, HKr, hlh, hlr⟩ := hrel
      go_wp2_with (first | (at_next; refine wpList_next_ranges _ rfl _ rfl 106 keyRules (plainElem Try.prog 4) (Value.int .u32) (fun v : Value => v) (fun key kl hkey => by obtain ⟨x, h1, _⟩ := Go.Maps.keyOf_int_inv Try.underlying106 hkey; exact ⟨x, h1⟩) (fun v y _ => ⟨v, rfl⟩) (w.heap.size + 1) rr N D left cnt rfl hrg.out ?_ ?_))
      · intro hc0 hl0
        have HRF : Hid (RMap s w n (SeenK s) wr) := by
          obtain ⟨D', ho', hm'⟩ := HRMr.out
          refine ⟨D', ho', hm'.congr fun h k => ⟨fun ⟨h1, h2, _⟩ => ⟨h1, by rw [show chartsC s = N from HN.out.symm]; exact h2⟩, fun ⟨h1, h2⟩ => ⟨h1, by rw [HN.out]; exact h2, hl0 _⟩⟩⟩
        have v0 := HNIr.out.pv.cell 0
        simp at v0
        clear hl0 hc0
        go_wp2
        refine marks_ret1 (v := .pointer (some ⟨w.heap.size + 1 + 1 + 1, 0, none⟩)) rfl HKr.out (by simp [results, Try.results78, go_sem]) ?_
        obtain ⟨D', ho', hm'⟩ := HRF.out
        have hgp : wr.grownBy (wr.putObj DD (.deferred none)) (some DD) := grownBy_putObj' wr DD _
        exact ⟨_, _, _, _, _, rfl, HNIr.out.pr.putObj HKr.out rfl, ho'.kept hgp (by intro e; cases e; omega), hm', by omega, below_putObj HNIr.out.low (by omega) HKr.out _⟩
      · intro x c kl yd yp w1 cnt1 hkey hlk hv hat hrg1 hcl hg1 hs1 hen
        obtain ⟨x', hx1, rfl, hxw⟩ := Go.Maps.keyOf_int_inv Try.underlying106 hkey
        cases hx1
        obtain ⟨h, hsn, hhe⟩ := (HHM.out.2 _).1 (hlh.out _ hlk)
        simp only [Lit.int.injEq, true_and] at hhe
        subst hhe
        have hh : h < 4294967296 := by obtain ⟨j, _, e⟩ := hsn; rw [e]; exact bset_lt32 _ V.len
        have hrr1 : rr < w1.heap.size := by omega
        have hszr := HNIr.out.sz
        have hn1 : NI s w w1 := by
          have hs := HNIr.out
          refine ⟨hs.low.grown hg1 hs.low.size (fun k e => by cases e; omega), by omega, (hg1.block _ (by omega) ?_).trans hs.k0, (hg1.block _ (by omega) ?_).trans hs.pr, (hg1.block _ (by omega) ?_).trans hs.pv, (hg1.block _ (by omega) ?_).trans hs.ka⟩ <;> (intro e; cases e; omega)
        have HNI1 := Lib.hid hn1
        have HK1 := Lib.hid ((hg1.block DD (by omega) (by intro e; cases e; omega)).trans HKr.out)
        have hrm1 : RMap s w n (fun h k => (k : Int) < s.kinds ∧ Seen s N h ∧ left (.int .u32 (h : Int)) = false) w1 := by
          obtain ⟨D', ho', hm'⟩ := HRMr.out
          exact ⟨D', ho'.kept hg1 (by intro e; cases e; omega), hm'⟩
        have HRM1 := Lib.hid hrm1
        have HRG1 := Lib.hid hrg1
        have HRGo := Lib.hid hrg
        have HSN := Lib.hid hsn
        have HLK := Lib.hid hlk
        have k0 := hn1.k0.cell 2
        simp at k0
        clear hn1 hrm1 hrg1 hrg hkey hv hat hlk hs1 hg1 hsn
        go_wp2
        obtain ⟨wo, rfl⟩ : ∃ wo : World, wo = wr := ⟨_, rfl⟩
        go_loopw [39] (fun i wq => ∃ j n' : Nat, (j : Int) ≤ s.kinds ∧ i = .int .i64 j ∧ n' ≤ n + j ∧ Hid (wq.ranges Try.prog 106 (plainElem Try.prog 4) (w.heap.size + 1) rr N D (fun z => left z && !z.sameKey (.int .u32 (h : Int))) cnt1) ∧ Hid (NI s w wq) ∧
          Hid (RMap s w n' (fun a b => ((b : Int) < s.kinds ∧ Seen s N a ∧ left (.int .u32 (a : Int)) = false) ∨ (a = h ∧ b < j)) wq) ∧ Hid (wq.heap[DD]? = some (.deferred (some []))) ∧ rr < wq.heap.size) (fun i _ => s.kinds.toNat - (intOf i).toNat)
        case atStart =>
          refine ⟨0, n, by omega, rfl, by omega, HRG1, HNI1, ?_, HK1, hrr1⟩
          obtain ⟨D', ho', hm'⟩ := HRM1.out
          exact ⟨D', ho', hm'.congr fun a b => ⟨fun e => .inl e, fun e => e.elim id fun e => by omega⟩⟩
        case round =>
          obtain ⟨j, n', hj, rfl, hnn, HRGq, HNIq, HRMq, HKq, hlq⟩ := hrel
          by_cases hlt : (j : Int) < s.kinds
          · have hszq := HNIq.out.sz
            have pc := HNIq.out.pr.cell
            have p0 := pc 0; have p1 := pc 1; have p2 := pc 2; have p3 := pc 3; have p4 := pc 4; have p5 := pc 5; have p7 := pc 7
            have v0 := HNIq.out.pv.cell 0
            simp at p0 p1 p2 p3 p4 p5 p7 v0
            obtain ⟨L, hL⟩ : ∃ L, L = bset (mainS s (sp s (fun i => h.testBit i && !(0 : Nat).testBit i) (j : Int)) s.rules.length) s.rules.length := ⟨_, rfl⟩
            have hLl : L < 4294967296 := hL ▸ bset_lt32 _ V.len
            have hlw := HNIq.out.low
            have HSP := fun W (hW : Below w.heap.size w W) => Lib.hid (hL ▸ speak0 V hh hlt ((HRR.out.below hW).more hW.size))
            have HSY := fun W (hW : Below w.heap.size w W) => Lib.hid (say_any s s.rv rfl 0 L hLl W ((HRR.out.below hW).more hW.size) V)
            have hX : bset (saidTo s L s.rules.length) 20 = ansH s 0 h (j : Int) := by rw [hL]; rfl
            rw [hX] at HSY
            have hXl := ansH_lt s 0 h (j : Int)
            have HLW := Lib.hid hlw
            have hb3 : n' < 140737488355328 := by omega
            have l4 : w.heap.size + 1 + 1 + 1 + 1 < wr.heap.size := by omega
            have l3 : w.heap.size + 1 + 1 + 1 < wr.heap.size := by omega
            clear hL hX hlw pc
            go_wp2
            refine wp_region_tail 19 (by kernel_rfl) (by kernel_rfl) ?_
            simp only [List.take_succ_cons, List.take_zero, List.drop_succ_cons, List.drop_zero]
            (repeat (go_big_quiet_step ((first | (go_at_call 56; with_reducible exact Calls.ext_of (HSP _ (HLW.out.trans ((Grow.h _).mono HLW.out.size))).out) | (go_at_call 55; with_reducible exact Calls.ext_of (HSY _ (HLW.out.trans ((Grow.h _).mono HLW.out.size))).out)))))
            with_reducible refine wpQuiet_nil ?_
            intro w2 hw2
            have hb1 := ext_below hw2
            clear hw2
            obtain ⟨D2, hown2, hrm2⟩ := HRMq.out
            refine wpList_mapUpdate_own _ rfl _ _ _ 133 rfl 149 112 keyPoint Try.underlying133 (plainElem Try.prog 112) (w.heap.size + 1 + 1) n' D2 rfl (ownsMap_below hown2 hb1 (by omega)) (by unfold maxLen; omega) _ _ (pkey (h : Int) (j : Int)) rfl rfl (pkey_of (wfu hh) (wfi (by omega))) (.lit (.int .u32 ((ansH s 0 h (j : Int) : Nat) : Int))) [] (plainElem_int Try.underlying112 (wfu hXl)) ?_
            intro w3 hown3 hgrow3
            have hz1 := hb1.size
            have hz3 := hgrow3.size
            have HNI3 := Lib.hid ((HNIq.out.below hb1).grown hgrow3 (.inr rfl))
            have HRG3 := Lib.hid ((HRGq.out.kept (grown_of_below hb1) (by simp) (by simp)).kept hgrow3 (by simp) (by intro e; cases e; omega))
            have HRM3 : Hid (RMap s w (n' + 1) (fun a b => ((b : Int) < s.kinds ∧ Seen s N a ∧ left (.int .u32 (a : Int)) = false) ∨ (a = h ∧ b < j + 1)) w3) :=
              (⟨_, hown3, (hrm2.put h j ⟨hh, by omega⟩).congr fun a b => ⟨by rintro ((e | ⟨rfl, e⟩) | ⟨rfl, rfl⟩) <;> first | exact .inl e | exact .inr ⟨rfl, by omega⟩, fun e => (by
                rcases e with e | ⟨rfl, e⟩
                · exact .inl (.inl e)
                · rcases Nat.lt_succ_iff_lt_or_eq.1 e with e | rfl
                  · exact .inl (.inr ⟨rfl, e⟩)
                  · exact .inr ⟨rfl, rfl⟩)⟩⟩ : RMap s w (n' + 1) (fun a b => ((b : Int) < s.kinds ∧ Seen s N a ∧ left (.int .u32 (a : Int)) = false) ∨ (a = h ∧ b < j + 1)) w3)
            have HK3 := Lib.hid ((hgrow3.block DD (by omega) (by intro e; cases e; omega)).trans ((hb1.block DD (by omega)).trans HKq.out))
            have hl3 : rr < w3.heap.size := by omega
            clear hown3 hgrow3 hb1 hown2 hrm2 p0 p1 p2 p3 p4 p5 p7 v0
            refine wpList_nil ?_
            go_frame
            go_wp2
            go_roundw
            case rel => exact ⟨j + 1, n' + 1, by omega, by go_num, by omega, HRG3, HNI3, HRM3, HK3, hl3⟩
            case measure => simp [intOf]; omega
          · have hjk : (j : Int) = s.kinds := by omega
            have HJK := Lib.hid hjk
            clear hjk
            go_wp2
            go_roundw
            case rel =>
              refine ⟨_, _, HRGq, n', ?_, by omega, fun kl hkl => ?_⟩
              · obtain ⟨D', ho', hm'⟩ := HRMq.out
                refine ⟨D', ho', hm'.congr fun a b => ?_⟩
                have e1 := HJK.out
                constructor
                · rintro (⟨e, e2, e3⟩ | ⟨rfl, e⟩)
                  · exact ⟨e, e2, by rw [e3]; rfl⟩
                  · refine ⟨by omega, HSN.out, ?_⟩
                    rw [WideAt.sameKey_self (show WideAt.IsKeyLit (.int .u32 (a : Int)) from trivial)]; simp
                · rintro ⟨e, e2, e3⟩
                  simp only [Bool.and_eq_false_iff, Bool.not_eq_false'] at e3
                  rcases e3 with e3 | e3
                  · exact .inl ⟨e, e2, e3⟩
                  · have := WideAt.sameKey_eq e3
                    simp only [Lit.int.injEq, true_and] at this
                    exact .inr ⟨by omega, by omega⟩
              · simp only [Bool.and_eq_true] at hkl
                exact hlh.out kl hkl.1
            case measure =>
              rw [HRGq.out.left_eq, HRGo.out.out.left_eq]
              exact hcl
end Go.Proofs.Ytidlmbajpbbilaa

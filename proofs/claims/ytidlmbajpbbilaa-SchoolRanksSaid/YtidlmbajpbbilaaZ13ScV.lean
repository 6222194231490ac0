/- School: newPruner. -/
import Derived.Test.YtidlmbajpbbilaaZ12Tail
namespace Go.Proofs.Ytidlmbajpbbilaa
open Go.RowKit
attribute [local go_sem] Oper.semAt_some

/-- the rules that hold for some of the first n charts -/
def Seen (s : Sch) (n : Nat) (h : Nat) : Prop := ∃ j, j < n ∧ h = applN s (chartL s j)
def SeenK (s : Sch) (h k : Nat) : Prop := (k : Int) < s.kinds ∧ Seen s (chartsC s) h
def PrRet (s : Sch) (w : World) (e : Ending) (w' : World) : Prop :=
  ∃ p hm rm n D, e = .returned (.pointer (some ⟨p, 0, none⟩)) ∧ PrAt w' p s 0 hm rm ∧ w'.ownsMap Try.prog 149 (plainElem Try.prog 112) rm n D ∧ RM s D (SeenK s) ∧ w.heap.size ≤ p ∧ Below w.heap.size w w'
/-- the blocks of newPruner: b0 the school, b0 + 1 and b0 + 2 the maps, b0 + 3 the pruner, b0 + 4 the variable p, b0 + 5 the school of all -/
structure NI (s : Sch) (w : World) (W : World) : Prop where
  low : Below w.heap.size w W
  sz : w.heap.size + 1 + 1 + 1 + 1 + 1 < W.heap.size
  k0 : Blk W w.heap.size #[.int .i64 s.places, .int .i64 s.signs, .int .i64 s.kinds, .int .i64 s.answers, s.rv] 24
  pr : PrAt W (w.heap.size + 1 + 1 + 1) s 0 (w.heap.size + 1) (w.heap.size + 1 + 1)
  pv : Blk W (w.heap.size + 1 + 1 + 1 + 1) #[.pointer (some ⟨w.heap.size + 1 + 1 + 1, 0, none⟩)] 129
  ka : Blk W (w.heap.size + 1 + 1 + 1 + 1 + 1) #[.int .i64 s.places, .int .i64 s.signs, .int .i64 s.kinds, .int .i64 s.answers, s.rv] 24
theorem NI.stab {s : Sch} {w : World} {B : Nat} (hB : w.heap.size ≤ B) : Stab B (NI s w) := fun W W' row h hg hr =>
  ⟨Stab.low hB w (Nat.le_refl _) W W' row h.low hg hr, Nat.lt_of_lt_of_le h.sz hg.size, Stab.blk _ _ _ _ W W' row h.k0 hg hr, Stab.blk _ _ _ _ W W' row h.pr hg hr, Stab.blk _ _ _ _ W W' row h.pv hg hr, Stab.blk _ _ _ _ W W' row h.ka hg hr⟩
theorem NI.below {s : Sch} {w W W' : World} (h : NI s w W) (hb : Below W.heap.size W W') : NI s w W' := (NI.stab (Nat.le_refl _)).below h hb
theorem NI.grown {s : Sch} {w W W' : World} {b : Nat} (h : NI s w W) (hg : W.grownBy W' (some b)) (hb : b = w.heap.size + 1 ∨ b = w.heap.size + 1 + 1) : NI s w W' := by
  have hs := h.sz
  refine ⟨h.low.grown hg h.low.size (fun k e => by cases e; omega), Nat.lt_of_lt_of_le h.sz hg.size, (hg.block _ (by omega) ?_).trans h.k0, (hg.block _ (by omega) ?_).trans h.pr, (hg.block _ (by omega) ?_).trans h.pv, (hg.block _ (by omega) ?_).trans h.ka⟩ <;> (intro e; cases e; omega)
theorem Seen.succ (s : Sch) (n h : Nat) : (Seen s n h ∨ h = applN s (chartL s n)) ↔ Seen s (n + 1) h := by
  constructor
  · rintro (⟨j, hj, e⟩ | e)
    · exact ⟨j, by omega, e⟩
    · exact ⟨n, by omega, e⟩
  · rintro ⟨j, hj, e⟩
    rcases Nat.lt_succ_iff_lt_or_eq.1 hj with h1 | rfl
    · exact .inl ⟨j, h1, e⟩
    · exact .inr e
abbrev HMap (s : Sch) (w : World) (k : Nat) (W : World) : Prop := ∃ D : DW, W.ownsMap Try.prog 106 (plainElem Try.prog 4) (w.heap.size + 1) k D ∧ HM D (Seen s k)
abbrev RMap (s : Sch) (w : World) (n : Nat) (S : Nat → Nat → Prop) (W : World) : Prop := ∃ D : DW, W.ownsMap Try.prog 149 (plainElem Try.prog 112) (w.heap.size + 1 + 1) n D ∧ RM s D S
theorem HMap.stab {s : Sch} {w : World} {k B : Nat} (hB : w.heap.size + 1 < B) : Stab B (HMap s w k) := Stab.ex fun _ => (Stab.ownsMap hB).and (Stab.pure _)
theorem RMap.stab {s : Sch} {w : World} {n B : Nat} {S : Nat → Nat → Prop} (hB : w.heap.size + 1 + 1 < B) : Stab B (RMap s w n S) := Stab.ex fun _ => (Stab.ownsMap hB).and (Stab.pure _)
theorem plainElem_bool_inv {P : Program} {e : TypeId} (he : P.underlying e = some .bool) {v : Value} {z : DW × List MemPlace} (h : plainElem P e v = some z) : ∃ b, v = .bool b := by
  unfold plainElem at h
  rw [he] at h
  cases v <;> simp at h
  exact ⟨_, rfl⟩
/-- the two steps behind the rules that hold, by the whole school -/
theorem speak0 {s : Sch} (V : Valid s) {h : Nat} (hh : h < 4294967296) {k : Nat} (hk : (k : Int) < s.kinds) {W : World} (hr : s.reads W W.heap.size) :
    Calls Try.prog 56 #[rdv s s.rv 0, .int .u32 (h : Int), .int .i64 (k : Int)] W fun e w' => e = .returned (.int .u32 ((bset (mainS s (sp s (fun i => h.testBit i && !(0 : Nat).testBit i) (k : Int)) s.rules.length) s.rules.length : Nat) : Int)) ∧ Below W.heap.size W w' :=
  speak_any s s.rv rfl h 0 hh (by omega) (k : Int) (by omega) hk W V hr
set_option maxRecDepth 100000 in
set_option maxHeartbeats 4000000 in
theorem newPruner_any (s : Sch) (V : Valid s) (w : World) (hr : s.reads w w.heap.size) : Calls Try.prog 78 #[scv s s.rv] w (PrRet s w) := by
  have hmm := @run_makeMap Try.prog
  refine calls_marks Try.func78 rfl ?_
  simp only [Try.ntmps78, List.size_toArray, List.length_cons, List.length_nil, Nat.reduceAdd, Nat.reduceSub, Array.replicate_succ, Array.replicate_zero, List.push_toArray, List.append_toArray, List.nil_append, List.cons_append]
  go_wp2
  refine wp_world (fun W => W.heap.size = w.heap.size + 1 + 1 + 1 + 1 + 1 + 1 ∧ NI s w W ∧ HMap s w 0 W ∧ RMap s w 0 (fun _ _ => False) W) ?_ ?_
  · refine ⟨by simp, ⟨by (repeat (first | exact Below.refl _ _ | assumption | (refine Below.alloc ?_ (by first | omega | (simp; omega) | (simp; done)) _) | (refine Below.setCell ?_ (by first | omega | (simp; omega) | (simp; done)) _) | (refine Below.drew ?_) | (refine belowN ?_ _) | (refine Below.trans ?_ (Below.mono ‹Below _ _ _› (by first | omega | (simp; omega) | (simp; done)))))), by simp, (((((Blk.at_ (by simp)).alloc _).alloc _).alloc _).alloc _).alloc _, ((Blk.at_ (by simp)).alloc _).alloc _, (Blk.at_ (by simp)).alloc _, Blk.at_ (by simp)⟩, ⟨_, ?_, (HM.empty).congr fun x => ⟨fun h => h.elim, fun ⟨j, hj, _⟩ => by omega⟩⟩, ⟨_, ?_, RM.empty s⟩⟩
    · have := World.ownsMap_made (w.alloc (.cells #[.int .i64 s.places, .int .i64 s.signs, .int .i64 s.kinds, .int .i64 s.answers, s.rv] 24)) Try.prog 106 (plainElem (H := Unit) Try.prog 4)
      rw [World.size_alloc] at this
      exact (((this.alloc _).alloc _).alloc _).alloc _
    · have := World.ownsMap_made ((w.alloc (.cells #[.int .i64 s.places, .int .i64 s.signs, .int .i64 s.kinds, .int .i64 s.answers, s.rv] 24)).alloc (.map #[] 0)) Try.prog 149 (plainElem (H := Unit) Try.prog 112)
      rw [World.size_alloc, World.size_alloc] at this
      exact ((this.alloc _).alloc _).alloc _
  clear hmm
  rintro Wl ⟨hzl, hn0, hh0, hr0⟩
  have HRR := Lib.hid hr
  clear hr
  refine wp_rangeS (lb := #[.pointer (some ⟨w.heap.size + 1 + 1 + 1 + 1 + 1, 0, none⟩)]) rfl ent_all1 (all1_iter s s.rv (w.heap.size + 1 + 1 + 1 + 1 + 1) V.small V.charts) [(5, 1)]
    (fun k W => NI s w W ∧ HMap s w k W ∧ RMap s w 0 (fun _ _ => False) W)
    (fun _ _ => False)
    (fun k => (NI.stab (by omega)).and ((HMap.stab (by omega)).and (RMap.stab (by omega)))) (fun c => Stab.pure _) ?hE ?hD ⟨hn0, hh0, hr0⟩ ?hps ?hassign ?hbody ?hdone (fun D c W h => h.elim)
  case hE => exact fun k xs => Stab.ex fun A => Stab.ex fun c => (Stab.pure _).and (Stab.sl _ _)
  case hD => exact fun k W hi => ⟨hi.1.sz, by rw [hi.1.ka.cell]; rfl, by rw [hi.1.ka.cell]; rfl, by rw [hi.1.ka.cell]; rfl, by rw [hi.1.ka.cell]; rfl, by rw [hi.1.ka.cell]; rfl⟩
  case hps => rintro k W xs ⟨A, c, rfl, _⟩; rfl
  case hassign =>
    rintro l k xs W K ⟨A, c, rfl, _⟩ hK
    rw [round21] at hK
    rw [fold2]
    simp only [List.setIfInBounds_toArray, List.set_cons_succ, List.set_cons_zero] at hK ⊢
    gi_wp2
    exact hK
  case hbody =>
    rintro l k xs W hk ⟨hni, ⟨D, hown, hHM⟩, hrm⟩ ⟨A', c', rfl, hsl⟩ hl1 hl2
    rw [round21]
    simp only [List.setIfInBounds_toArray, List.set_cons_succ, List.set_cons_zero]
    have hbw := hni.low
    have hln : (chartL s k).length = s.places.toNat := digits_len _ _ _
    have HQ := Lib.hid (asks0 (kind := 0) (c := c') V ((HRR.out.below hbw).more hbw.size) (by omega) (by have := V.kinds; omega) hln rfl (chartL_bd V k) hsl)
    have hsz := hni.sz
    have pc := hni.pr.cell
    have p0 := pc 0; have p1 := pc 1; have p2 := pc 2; have p3 := pc 3; have p4 := pc 4; have p5 := pc 5; have p6 := pc 6
    have v0 := hni.pv.cell 0
    simp at p0 p1 p2 p3 p4 p5 p6 v0
    have HNI := Lib.hid hni; have HOWN := Lib.hid hown; have HRM := Lib.hid hrm; have HHM := Lib.hid hHM
    have hk4 : k < 4096 := by have := V.charts; omega
    have hk5 : k < 140737488355328 := by omega
    clear hni hown hrm hHM pc hsl hbw
    have l4 : w.heap.size + 1 + 1 + 1 + 1 < W.heap.size := by omega
    have l3 : w.heap.size + 1 + 1 + 1 < W.heap.size := by omega
    gi_wp2
    refine wpIn_region_tail 10 (by kernel_rfl) (by kernel_rfl) (by kernel_rfl) ?_
    simp only [List.take_succ_cons, List.take_zero, List.drop_succ_cons, List.drop_zero]
    (repeat (go_big_quiet_step ((go_at_call 57; with_reducible exact Calls.ext_of (HQ.out.apply _ (Grow.h _))))))
    with_reducible refine wpQuiet_nil ?_
    intro w1 hw1
    have hb1 := ext_below hw1
    clear hw1
    have HAP := bset_lt32 (appl s (chartL s k)) V.len
    refine wpListIn_mapUpdate_own _ rfl _ _ _ 132 rfl 106 4 keyRules Try.underlying132 (plainElem Try.prog 4) (w.heap.size + 1) k D rfl (ownsMap_below HOWN.out hb1 (by omega)) (by unfold maxLen; omega) _ _ (.int .u32 ((applN s (chartL s k) : Nat) : Int)) rfl rfl (Go.Maps.keyOf_int_mk Try.underlying106 (wfu HAP)) (.lit (.bool true)) [] (plainElem_bool Try.underlying4 true) ?_
    intro w2 hown2 hgrow2
    have hn1 := HNI.out.below hb1
    have hz1 := hb1.size
    obtain ⟨D', ho', hm'⟩ := HRM.out
    exact ⟨(keepsFrom_below hb1).trans (KeepsFrom.of_grownBy hgrow2 (fun j e => by cases e; omega)), hn1.grown hgrow2 (.inl rfl), ⟨_, hown2, (HHM.out.put _ _).congr (Seen.succ s k)⟩, D', (ownsMap_below ho' hb1 (by omega)).kept hgrow2 (by simp), hm'⟩
  case hdone =>
    rintro DD W ⟨hni, ⟨D, hown, hHM⟩, hrm⟩ hD hK
    obtain ⟨N, hN⟩ : ∃ N, N = (chartsN s.signs s.places.toNat).toNat := ⟨_, rfl⟩
    have hN4 : N ≤ 4096 := by have := V.charts; omega
    rw [← hN] at hown hHM
    have HN := Lib.hid hN
    have hcnt := ownsMap_size hown
    have hsz := hni.sz
    have pc := hni.pr.cell
    have p5 := pc 5; have p6 := pc 6; have p7 := pc 7
    have v0 := hni.pv.cell 0
    simp at p5 p6 p7 v0
    clear hN
    go_wp2_with (first | (at_range; refine wpList_range_own _ rfl _ 132 rfl 106 4 keyRules Try.underlying132 (plainElem Try.prog 4) (w.heap.size + 1) N D rfl hown ?_; intro w0 hrg0 hg0 hs0))
    go_frame
    have hb0 := Below.grown (Below.refl W.heap.size W) hg0 (Nat.le_refl _) (fun j e => by cases e)
    have HNI := Lib.hid (hni.below hb0)
    obtain ⟨rr, hrr⟩ : ∃ r, r = W.heap.size := ⟨_, rfl⟩
    rw [← hrr] at hrg0 hs0 ⊢
    have hDW : DD < rr := by rw [hrr]; exact (Array.getElem?_eq_some_iff.1 hK).1
    have hwD : w.heap.size + 1 + 1 + 1 + 1 + 1 < DD := by omega
    have HKD := Lib.hid ((hb0.block DD (by omega)).trans hK)
    have HRG := Lib.hid hrg0
    have HR0 : Hid (RMap s w 0 (fun h k => (k : Int) < s.kinds ∧ Seen s N h ∧ Go.Maps.has D (.int .u32 (h : Int)) = false) w0) := by
      obtain ⟨D', ho', hm'⟩ := hrm
      refine ⟨D', ownsMap_below ho' hb0 (by omega), hm'.congr fun h k => ⟨fun e => e.elim, fun ⟨_, h1, h2⟩ => ?_⟩⟩
      have := (hHM.2 (.int .u32 (h : Int))).2 ⟨h, h1, rfl⟩
      rw [this] at h2; cases h2
    have HHM := Lib.hid hHM
    have hk14 := V.kinds
    clear hb0 hg0 hrg0 hrr hK hni hown hHM hrm p5 p6 p7 v0 pc hn0 hh0 hr0 hD hzl
    go_loopw [6] (fun _ wr => ∃ left cnt n, Hid (wr.ranges Try.prog 106 (plainElem Try.prog 4) (w.heap.size + 1) rr N D left cnt) ∧ Hid (NI s w wr) ∧
      Hid (RMap s w n (fun h k => (k : Int) < s.kinds ∧ Seen s N h ∧ left (.int .u32 (h : Int)) = false) wr) ∧ n + 4 * cnt ≤ 16384 ∧ Hid (wr.heap[DD]? = some (.deferred (some []))) ∧ Hid (∀ kl, left kl = true → Go.Maps.has D kl = true) ∧ rr < wr.heap.size) (fun _ wr => wr.rangeLeft (w.heap.size + 1) rr)
    case atStart => exact ⟨_, _, 0, HRG, HNI, HR0, by omega, HKD, fun kl h => h, by omega⟩
    case round =>
      obtain ⟨left, cnt, n, hrg, HNIr, HRMr, hcb, HKr, hlh, hlr⟩ := hrel
      go_wp2_with (first | (at_next; refine wpList_next_ranges _ rfl _ rfl 106 keyRules (plainElem Try.prog 4) (Value.int .u32) (fun v : Value => v) (fun key kl hkey => by obtain ⟨x, h1, _⟩ := Go.Maps.keyOf_int_inv Try.underlying106 hkey; exact ⟨x, h1⟩) (fun v y _ => ⟨v, rfl⟩) (w.heap.size + 1) rr N D left cnt rfl hrg.out ?_ ?_))
      · intro hc0 hl0
        have HRF : Hid (RMap s w n (SeenK s) wr) := by
          obtain ⟨D', ho', hm'⟩ := HRMr.out
          refine ⟨D', ho', hm'.congr fun h k => ⟨fun ⟨h1, h2, _⟩ => ⟨h1, by rw [show chartsC s = N from HN.out.symm]; exact h2⟩, fun ⟨h1, h2⟩ => ⟨h1, by rw [HN.out]; exact h2, hl0 _⟩⟩⟩
        have v0 := HNIr.out.pv.cell 0
        simp at v0
        clear hl0 hc0
        go_wp2
        refine marks_ret1 (v := .pointer (some ⟨w.heap.size + 1 + 1 + 1, 0, none⟩)) rfl HKr.out (by simp [results, Try.results78, go_sem]) ?_
        obtain ⟨D', ho', hm'⟩ := HRF.out
        have hgp : wr.grownBy (wr.putObj DD (.deferred none)) (some DD) := grownBy_putObj' wr DD _
        exact ⟨_, _, _, _, _, rfl, HNIr.out.pr.putObj HKr.out rfl, ho'.kept hgp (by intro e; cases e; omega), hm', by omega, below_putObj HNIr.out.low (by omega) HKr.out _⟩
      · intro x c kl yd yp w1 cnt1 hkey hlk hv hat hrg1 hcl hg1 hs1 hen
        obtain ⟨x', hx1, rfl, hxw⟩ := Go.Maps.keyOf_int_inv Try.underlying106 hkey
        cases hx1
        obtain ⟨h, hsn, hhe⟩ := (HHM.out.2 _).1 (hlh.out _ hlk)
        simp only [Lit.int.injEq, true_and] at hhe
        subst hhe
        have hh : h < 4294967296 := by obtain ⟨j, _, e⟩ := hsn; rw [e]; exact bset_lt32 _ V.len
        have hrr1 : rr < w1.heap.size := by omega
        have hszr := HNIr.out.sz
        have hn1 : NI s w w1 := by
          have hs := HNIr.out
          refine ⟨hs.low.grown hg1 hs.low.size (fun k e => by cases e; omega), by omega, (hg1.block _ (by omega) ?_).trans hs.k0, (hg1.block _ (by omega) ?_).trans hs.pr, (hg1.block _ (by omega) ?_).trans hs.pv, (hg1.block _ (by omega) ?_).trans hs.ka⟩ <;> (intro e; cases e; omega)
        have HNI1 := Lib.hid hn1
        have HK1 := Lib.hid ((hg1.block DD (by omega) (by intro e; cases e; omega)).trans HKr.out)
        have hrm1 : RMap s w n (fun h k => (k : Int) < s.kinds ∧ Seen s N h ∧ left (.int .u32 (h : Int)) = false) w1 := by
          obtain ⟨D', ho', hm'⟩ := HRMr.out
          exact ⟨D', ho'.kept hg1 (by intro e; cases e; omega), hm'⟩
        have HRM1 := Lib.hid hrm1
        have HRG1 := Lib.hid hrg1
        have HRGo := Lib.hid hrg
        have HSN := Lib.hid hsn
        have HLK := Lib.hid hlk
        have k0 := hn1.k0.cell 2
        simp at k0
        clear hn1 hrm1 hrg1 hrg hkey hv hat hlk hs1 hg1 hsn
        go_wp2
        obtain ⟨wo, rfl⟩ : ∃ wo : World, wo = wr := ⟨_, rfl⟩
        go_loopw [39] (fun i wq => ∃ j n' : Nat, (j : Int) ≤ s.kinds ∧ i = .int .i64 j ∧ n' ≤ n + j ∧ Hid (wq.ranges Try.prog 106 (plainElem Try.prog 4) (w.heap.size + 1) rr N D (fun z => left z && !z.sameKey (.int .u32 (h : Int))) cnt1) ∧ Hid (NI s w wq) ∧
          Hid (RMap s w n' (fun a b => ((b : Int) < s.kinds ∧ Seen s N a ∧ left (.int .u32 (a : Int)) = false) ∨ (a = h ∧ b < j)) wq) ∧ Hid (wq.heap[DD]? = some (.deferred (some []))) ∧ rr < wq.heap.size) (fun i _ => s.kinds.toNat - (intOf i).toNat)
        case atStart =>
          refine ⟨0, n, by omega, rfl, by omega, HRG1, HNI1, ?_, HK1, hrr1⟩
          obtain ⟨D', ho', hm'⟩ := HRM1.out
          exact ⟨D', ho', hm'.congr fun a b => ⟨fun e => .inl e, fun e => e.elim id fun e => by omega⟩⟩
        case round =>
          obtain ⟨j, n', hj, rfl, hnn, HRGq, HNIq, HRMq, HKq, hlq⟩ := hrel
          by_cases hlt : (j : Int) < s.kinds
          · have hszq := HNIq.out.sz
            have pc := HNIq.out.pr.cell
            have p0 := pc 0; have p1 := pc 1; have p2 := pc 2; have p3 := pc 3; have p4 := pc 4; have p5 := pc 5; have p7 := pc 7
            have v0 := HNIq.out.pv.cell 0
            simp at p0 p1 p2 p3 p4 p5 p7 v0
            obtain ⟨L, hL⟩ : ∃ L, L = bset (mainS s (sp s (fun i => h.testBit i && !(0 : Nat).testBit i) (j : Int)) s.rules.length) s.rules.length := ⟨_, rfl⟩
            have hLl : L < 4294967296 := hL ▸ bset_lt32 _ V.len
            have hlw := HNIq.out.low
            have HSP := fun W (hW : Below w.heap.size w W) => Lib.hid (hL ▸ speak0 V hh hlt ((HRR.out.below hW).more hW.size))
            have HSY := fun W (hW : Below w.heap.size w W) => Lib.hid (say_any s s.rv rfl 0 L hLl W ((HRR.out.below hW).more hW.size) V)
            have hX : bset (saidTo s L s.rules.length) 20 = ansH s 0 h (j : Int) := by rw [hL]; rfl
            rw [hX] at HSY
            have hXl := ansH_lt s 0 h (j : Int)
            have HLW := Lib.hid hlw
            have hb3 : n' < 140737488355328 := by omega
            have l4 : w.heap.size + 1 + 1 + 1 + 1 < wr.heap.size := by omega
            have l3 : w.heap.size + 1 + 1 + 1 < wr.heap.size := by omega
            clear hL hX hlw pc
            go_wp2
            refine wp_region_tail 19 (by kernel_rfl) (by kernel_rfl) ?_
            simp only [List.take_succ_cons, List.take_zero, List.drop_succ_cons, List.drop_zero]
            (repeat (go_big_quiet_step ((first | (go_at_call 56; with_reducible exact Calls.ext_of (HSP _ (HLW.out.trans ((Grow.h _).mono HLW.out.size))).out) | (go_at_call 55; with_reducible exact Calls.ext_of (HSY _ (HLW.out.trans ((Grow.h _).mono HLW.out.size))).out)))))
            with_reducible refine wpQuiet_nil ?_
            intro w2 hw2
            have hb1 := ext_below hw2
            clear hw2
            obtain ⟨D2, hown2, hrm2⟩ := HRMq.out
            refine wpList_mapUpdate_own _ rfl _ _ _ 133 rfl 149 112 keyPoint Try.underlying133 (plainElem Try.prog 112) (w.heap.size + 1 + 1) n' D2 rfl (ownsMap_below hown2 hb1 (by omega)) (by unfold maxLen; omega) _ _ (pkey (h : Int) (j : Int)) rfl rfl (pkey_of (wfu hh) (wfi (by omega))) (.lit (.int .u32 ((ansH s 0 h (j : Int) : Nat) : Int))) [] (plainElem_int Try.underlying112 (wfu hXl)) ?_
            intro w3 hown3 hgrow3
            have hz1 := hb1.size
            have hz3 := hgrow3.size
            have HNI3 := Lib.hid ((HNIq.out.below hb1).grown hgrow3 (.inr rfl))
            have HRG3 := Lib.hid ((HRGq.out.kept (grown_of_below hb1) (by simp) (by simp)).kept hgrow3 (by simp) (by intro e; cases e; omega))
            have HRM3 : Hid (RMap s w (n' + 1) (fun a b => ((b : Int) < s.kinds ∧ Seen s N a ∧ left (.int .u32 (a : Int)) = false) ∨ (a = h ∧ b < j + 1)) w3) :=
              (⟨_, hown3, (hrm2.put h j ⟨hh, by omega⟩).congr fun a b => ⟨by rintro ((e | ⟨rfl, e⟩) | ⟨rfl, rfl⟩) <;> first | exact .inl e | exact .inr ⟨rfl, by omega⟩, fun e => (by
                rcases e with e | ⟨rfl, e⟩
                · exact .inl (.inl e)
                · rcases Nat.lt_succ_iff_lt_or_eq.1 e with e | rfl
                  · exact .inl (.inr ⟨rfl, e⟩)
                  · exact .inr ⟨rfl, rfl⟩)⟩⟩ : RMap s w (n' + 1) (fun a b => ((b : Int) < s.kinds ∧ Seen s N a ∧ left (.int .u32 (a : Int)) = false) ∨ (a = h ∧ b < j + 1)) w3)
            have HK3 := Lib.hid ((hgrow3.block DD (by omega) (by intro e; cases e; omega)).trans ((hb1.block DD (by omega)).trans HKq.out))
            have hl3 : rr < w3.heap.size := by omega
            clear hown3 hgrow3 hb1 hown2 hrm2 p0 p1 p2 p3 p4 p5 p7 v0
            refine wpList_nil ?_
            go_frame
            go_wp2
            go_roundw
            case rel => exact ⟨j + 1, n' + 1, by omega, by go_num, by omega, HRG3, HNI3, HRM3, HK3, hl3⟩
            case measure => simp [intOf]; omega
          · have hjk : (j : Int) = s.kinds := by omega
            have HJK := Lib.hid hjk
            clear hjk
            go_wp2
            go_roundw
            case rel =>
              refine ⟨_, _, HRGq, n', ?_, by omega, fun kl hkl => ?_⟩
              · obtain ⟨D', ho', hm'⟩ := HRMq.out
                refine ⟨D', ho', hm'.congr fun a b => ?_⟩
                have e1 := HJK.out
                constructor
                · rintro (⟨e, e2, e3⟩ | ⟨rfl, e⟩)
                  · exact ⟨e, e2, by rw [e3]; rfl⟩
                  · refine ⟨by omega, HSN.out, ?_⟩
                    rw [WideAt.sameKey_self (show WideAt.IsKeyLit (.int .u32 (a : Int)) from trivial)]; simp
                · rintro ⟨e, e2, e3⟩
                  simp only [Bool.and_eq_false_iff, Bool.not_eq_false'] at e3
                  rcases e3 with e3 | e3
                  · exact .inl ⟨e, e2, e3⟩
                  · have := WideAt.sameKey_eq e3
                    simp only [Lit.int.injEq, true_and] at this
                    exact .inr ⟨by omega, by omega⟩
              · simp only [Bool.and_eq_true] at hkl
                exact hlh.out kl hkl.1
            case measure =>
              rw [HRGq.out.left_eq, HRGo.out.out.left_eq]
              exact hcl
end Go.Proofs.Ytidlmbajpbbilaa
namespace Go.Proofs.Ytidlmbajpbbilaa
open Go.RowKit
attribute [local go_sem] Oper.semAt_some

/-- without the rules O all charts are read as by the whole school -/
def sameB (s : Sch) (O : Nat) : Bool := (List.range (chartsC s)).all fun j => (List.range s.kinds.toNat).all fun k => ansN s O (k : Int) (chartL s j) == ansN s 0 (k : Int) (chartL s j)
theorem sameB_iff {s : Sch} {O : Nat} : sameB s O = true ↔ ∀ h k, SeenK s h k → ansH s O h (k : Int) = ansH s 0 h (k : Int) := by
  simp only [sameB, List.all_eq_true, List.mem_range, beq_iff_eq, ansN_eq]
  constructor
  · rintro h hh k ⟨hk, j, hj, rfl⟩
    exact h j hj k (by omega)
  · intro h j hj k hk
    exact h _ k ⟨by omega, j, hj, rfl⟩
theorem same_val {s : Sch} (V : Valid s) {p O hm rm n : Nat} {D : DW} {i : Nat} {w : World} (hP : PrAt w p s O hm rm) (hR : w.ownsMap Try.prog 149 (plainElem Try.prog 112) rm n D) (hM : RM s D (SeenK s))
    (hr : s.reads w w.heap.size) (hO : O < 4294967296) (hi : i < 32) :
    Calls Try.prog 79 #[.pointer (some ⟨p, 0, none⟩), .int .i64 (i : Int)] w fun e w' => e = .returned (.bool (sameB s (O ||| 2 ^ i))) ∧ Below w.heap.size w w' :=
  (same_any s V p O hm rm n D (SeenK s) i w hP hR hM (fun _ _ h => h.1) hr hO hi).mono fun e w' h => by
    obtain ⟨⟨b, rfl, hb⟩, hbel⟩ := h
    refine ⟨?_, hbel⟩
    have : b = sameB s (O ||| 2 ^ i) := by rw [Bool.eq_iff_iff, hb, sameB_iff]
    rw [this]
def idleL (s : Sch) (n : Nat) : List Int := ((List.range n).filter fun i => sameB s (2 ^ i)).map fun (i : Nat) => (i : Int)
theorem idleL_succ (s : Sch) (n : Nat) : idleL s (n + 1) = idleL s n ++ if sameB s (2 ^ n) then [(n : Int)] else [] := by
  unfold idleL
  rw [List.range_succ, List.filter_append, List.map_append]
  by_cases h : sameB s (2 ^ n) = true <;> simp [h]
theorem idleL_len (s : Sch) (n : Nat) : (idleL s n).length ≤ n := by
  unfold idleL
  rw [List.length_map]
  exact Nat.le_trans (List.length_filter_le _ _) (by simp)
def idleR (s : Sch) : List Int × Int := if schB s then (idleL s s.rules.length, 0) else ([], 2)
set_option maxRecDepth 100000 in
set_option maxHeartbeats 4000000 in
theorem idle_any (s : Sch) (w : World) (hr : s.reads w w.heap.size) : Calls Try.prog 45 #[scv s s.rv] w (RetSlE (idleR s).1 (idleR s).2 w) := by
  by_cases vs : schB s = true
  · have V := valid_of hr.oks vs
    have HC := fun W (hW : Below w.heap.size w W) => Lib.hid (chk_any vs W ((hr.below hW).more hW.size))
    have HN := fun W (hW : Below w.heap.size w W) => Lib.hid (newPruner_any s V W ((hr.below hW).more hW.size))
    have HR : Hid (idleR s = (idleL s s.rules.length, 0)) := (by simp [idleR, vs] : idleR s = (idleL s s.rules.length, 0))
    have hlen := V.len
    have HRR := Lib.hid hr
    clear hr
    obtain ⟨i0, hi, iz0, iz1, iz2⟩ := info_parts infoInt
    go_enter Try.func45, Try.ntmps45
    go_wp2_with fail
    refine ((HC _ (by (repeat (first | exact Below.refl _ _ | assumption | (refine Below.alloc ?_ (by first | omega | (simp; omega) | (simp; done)) _) | (refine Below.setCell ?_ (by first | omega | (simp; omega) | (simp; done)) _) | (refine Below.drew ?_) | (refine belowN ?_ _) | (refine Below.trans ?_ (Below.mono ‹Below _ _ _› (by first | omega | (simp; omega) | (simp; done)))))))).out).mono ?_
    rintro e w1 ⟨rfl, hb1⟩
    have hc1 := fun b o (h : b < w.heap.size + 1) => (bcell hb1).1 b o (by simp; omega)
    have hf1 := fun b o (h : b < w.heap.size + 1) => (bcell hb1).2 b o (by simp; omega)
    have hk1 := fun b (h : b < w.heap.size + 1) => hb1.block b (by simp; omega)
    have hz1 : w.heap.size + 1 ≤ w1.heap.size := (by have := hb1.size; simp at this; omega)
    go_wp2_with fail
    refine ((HN w1 (by (repeat (first | exact Below.refl _ _ | assumption | (refine Below.alloc ?_ (by first | omega | (simp; omega) | (simp; done)) _) | (refine Below.setCell ?_ (by first | omega | (simp; omega) | (simp; done)) _) | (refine Below.drew ?_) | (refine belowN ?_ _) | (refine Below.trans ?_ (Below.mono ‹Below _ _ _› (by first | omega | (simp; omega) | (simp; done)))))))).out).mono ?_
    rintro e w2 ⟨p, hm, rm, n, D, rfl, hP, hR, hM, hp, hb2⟩
    have hc2 := fun b o (h : b < w.heap.size + 1) => ((bcell hb2).1 b o (by omega)).trans (hc1 b o h)
    have hf2 := fun b o (h : b < w.heap.size + 1) => ((bcell hb2).2 b o (by omega)).trans (hf1 b o h)
    have hk2 := fun b (h : b < w.heap.size + 1) => (hb2.block b (by omega)).trans (hk1 b h)
    have hz2 : w.heap.size + 1 ≤ w2.heap.size := (by have := hb2.size; omega)
    have hbw2 : Below w.heap.size w w2 := by (repeat (first | exact Below.refl _ _ | assumption | (refine Below.alloc ?_ (by first | omega | (simp; omega) | (simp; done)) _) | (refine Below.setCell ?_ (by first | omega | (simp; omega) | (simp; done)) _) | (refine Below.drew ?_) | (refine belowN ?_ _) | (refine Below.trans ?_ (Below.mono ‹Below _ _ _› (by first | omega | (simp; omega) | (simp; done))))))
    have HP := Lib.hid hP; have HRM := Lib.hid hR; have HB2 := Lib.hid hbw2
    have l0 : w.heap.size < w2.heap.size := by omega
    have hpl := hP.lt
    have hrl := hR.lt
    clear hP hR hbw2 hb1 hb2 hk1 hk2 hf1 hf2
    go_wp2
    go_loopw [6, 18] (fun v i wr => ∃ k : Nat, k ≤ s.rules.length ∧ i = .int .i64 k ∧ wr.ownsRow w2.heap.size 3 1 v (idleL s k).length ((idleL s k).map (Value.int .i64)) ∧ Below w2.heap.size w2 wr) (fun _ i _ => s.rules.length - (intOf i).toNat)
    case atStart => exact ⟨0, by omega, rfl, World.ownsRow_nil _ _ _ _, Below.refl _ _⟩
    case round =>
      obtain ⟨k, hk, rfl, hown, hb⟩ := hrel
      have hsz := hb.size
      have HO := Lib.hid hown
      by_cases hlt : k < s.rules.length
      · have HS := Lib.hid (idleL_succ s k)
        have hl := idleL_len s k
        have hbw := HB2.out.trans (hb.mono HB2.out.size)
        have HSM := Lib.hid (same_val V (i := k) (HP.out.below hb hpl) (ownsMap_below HRM.out hb hrl) hM ((HRR.out.below hbw).more hbw.size) (by omega) (by omega))
        rw [Nat.zero_or] at HSM
        by_cases hbit : sameB s (2 ^ k) = true
        · rw [hbit] at HSM HS
          clear hbit hbw
          go_wp2_with fail
          refine HSM.out.mono ?_
          rintro e w3 ⟨rfl, hb3⟩
          have hz3 := hb3.size
          have hown3 := (Stab.owns (B := 0) _ _ _ _ _).below hown hb3
          have hbb3 := hb.trans (hb3.mono hsz)
          clear hown HO
          go_wp2_with (at_builtin; refine wpList_append_own _ rfl _ _ 28 rfl w2.heap.size 3 i0 (.int .i64 0) 1 8 uInts hi iz0 iz1 iz2 rfl (by decide) _ _ _ rfl (hown3.alloc _) ⟨w3.heap.size, 0, none⟩ 1 1 [.int .i64 (k : Int)] rfl rfl (cell_one_new _ _ _) (by simp [Value.oneCell']) (by unfold maxLen; omega) (by omega) (by simp; omega) ?_; intro v' w4 hown4 hgrow _)
          have hb4 : Below w2.heap.size w2 w4 := (hbb3.alloc (by omega) _).grown hgrow (by simp; omega) (fun g hg => (hown3.lt g hg).1)
          have HO4 := Lib.hid hown4
          clear hown3 hown4 hgrow
          go_wp2
          go_roundw
          case rel => exact ⟨k + 1, by omega, by go_num, by rw [HS.out]; simpa using HO4.out, hb4⟩
          case measure => simp [intOf]; omega
        · simp only [Bool.not_eq_true] at hbit
          rw [hbit] at HSM HS
          clear hbit hbw
          go_wp2_with fail
          refine HSM.out.mono ?_
          rintro e w3 ⟨rfl, hb3⟩
          have hz3 := hb3.size
          have HO3 := Lib.hid ((Stab.owns (B := 0) _ _ _ _ _).below hown hb3)
          have hbb3 := hb.trans (hb3.mono hsz)
          clear hown HO
          go_wp2
          go_roundw
          case rel => exact ⟨k + 1, by omega, by go_num, by rw [HS.out]; simpa using HO3.out, hbb3⟩
          case measure => simp [intOf]; omega
      · obtain rfl : k = s.rules.length := by omega
        have HBW := Lib.hid (HB2.out.trans (hb.mono HB2.out.size))
        rw [← flat_one] at hown
        obtain ⟨A, c, rfl, hsl⟩ := Sl.of_own hown
        have HS := Lib.hid hsl
        clear hown hsl HO
        go_wp2
        go_ret2
        rw [HR.out]
        exact ⟨A, c, rfl, HS.out, HBW.out⟩
  · simp only [Bool.not_eq_true] at vs
    have HC := fun W (hW : Below w.heap.size w W) => Lib.hid (chk_any vs W ((hr.below hW).more hW.size))
    have HR : Hid (idleR s = ([], 2)) := (by simp [idleR, vs] : idleR s = ([], 2))
    go_enter Try.func45, Try.ntmps45
    go_wp2_with fail
    refine ((HC _ (by (repeat (first | exact Below.refl _ _ | assumption | (refine Below.alloc ?_ (by first | omega | (simp; omega) | (simp; done)) _) | (refine Below.setCell ?_ (by first | omega | (simp; omega) | (simp; done)) _) | (refine Below.drew ?_) | (refine belowN ?_ _) | (refine Below.trans ?_ (Below.mono ‹Below _ _ _› (by first | omega | (simp; omega) | (simp; done)))))))).out).mono ?_
    rintro e w1 ⟨rfl, hb1⟩
    go_wp2
    go_ret2
    rw [HR.out]
    exact retSlE_nil (by (repeat (first | exact Below.refl _ _ | assumption | (refine Below.alloc ?_ (by first | omega | (simp; omega) | (simp; done)) _) | (refine Below.setCell ?_ (by first | omega | (simp; omega) | (simp; done)) _) | (refine Below.drew ?_) | (refine belowN ?_ _) | (refine Below.trans ?_ (Below.mono ‹Below _ _ _› (by first | omega | (simp; omega) | (simp; done)))))))
end Go.Proofs.Ytidlmbajpbbilaa
namespace Go.Proofs.Ytidlmbajpbbilaa
open Go.RowKit
attribute [local go_sem] Oper.semAt_some

def EncBack (s : Sch) (k : Nat) (_ : World) (xs : Array Value) : Prop := ∃ q r, q + 1 + k = s.rules.length ∧ s.rules[q]? = some r ∧ xs = #[.int .i64 (q : Int), rlv r]
theorem ent_bw1 : Ent 94 := ent_of Try.func94 (by kernel_rfl) rfl
set_option maxRecDepth 100000 in
set_option maxHeartbeats 1000000 in
theorem bw1_iter (s : Sch) (B : Nat) (hl : s.rules.length ≤ 30) :
    Iter 94 #[.pointer (some ⟨B, 0, none⟩)] (fun W => B < W.heap.size ∧ W.cell? ⟨B, 0, none⟩ = some s.rv ∧ Sl Rul.cells 5 W W.heap.size s.ra s.rules) (EncBack s) s.rules.length := by
  intro l J Jx W hJs hJxs hJD hY h0
  have HJs := Lib.hid hJs; have HJD := Lib.hid hJD; have HY := Lib.hid hY
  obtain ⟨hB, b0, _⟩ := hJD 0 W h0
  have H0 := Lib.hid h0
  clear hJs hJD hY h0 hJxs
  obtain ⟨n, hn⟩ : ∃ n, n = s.rules.length := ⟨_, rfl⟩
  have hrv : s.rv = .slice s.ra n s.rc := by rw [hn]
  rw [hrv] at b0
  rw [← hn] at HY hl ⊢
  have HN := Lib.hid hn
  have HRV := Lib.hid hrv
  clear hn hrv
  rw [← callsIn_wide (n := 2)]
  refine callsIn_of_wp Try.func94 rfl trivial ?_ rfl
  simp only [Try.ntmps94, List.size_toArray, List.length_cons, List.length_nil, Nat.reduceAdd, Nat.reduceSub, Array.replicate_succ, Array.replicate_zero, List.push_toArray, List.append_toArray, List.nil_append, List.cons_append]
  gi_wp2
  gi_loopw [3] (fun i wr => ∃ m : Nat, m ≤ n ∧ i = .int .i64 ((m : Int) - 1) ∧ Hid (J (n - m) wr)) (fun i _ => (intOf i + 1).toNat)
  case atStart => exact ⟨n, by omega, rfl, by rw [Nat.sub_self]; exact H0⟩
  case round =>
    obtain ⟨m, hm, rfl, hj⟩ := hrel
    cases m with
    | zero =>
      have hjn : Hid (J n wr) := hj
      gi_wp2
      go_end0
      exact ⟨⟨_, rfl⟩, .inl hjn.out⟩
    | succ q =>
      rw [show (((q + 1 : Nat) : Int) - 1) = (q : Int) by omega]
      obtain ⟨hB', q0, hsl⟩ := HJD.out _ wr hj.out
      rw [HRV.out] at q0
      obtain ⟨ab, ao, hra, hblk, hcell⟩ := hsl.at_ (k := q) (fun _ => rfl) (by rw [← HN.out]; omega)
      rw [hra] at q0
      have hge : s.rules[q]? = some s.rules[q] := List.getElem?_eq_getElem _
      obtain ⟨r, hr⟩ : ∃ r, r = s.rules[q]'(by rw [← HN.out]; omega) := ⟨_, rfl⟩
      rw [← hr] at hcell hge
      have c0 : wr.cell? ⟨ab, ao + q * 5, none⟩ = some (.slice r.wa r.when_.length r.wc) := hcell 0 _ rfl
      have c1 : wr.cell? ⟨ab, ao + q * 5 + 1, none⟩ = some (.int .i64 r.kinds) := hcell 1 _ rfl
      have c2 : wr.cell? ⟨ab, ao + q * 5 + 2, none⟩ = some (.int .i64 r.rank) := hcell 2 _ rfl
      have c3 : wr.cell? ⟨ab, ao + q * 5 + 3, none⟩ = some (.slice r.ua r.unless_.length r.uc) := hcell 3 _ rfl
      have c4 : wr.cell? ⟨ab, ao + q * 5 + 4, none⟩ = some (.int .i64 r.says) := hcell 4 _ rfl
      have hq0 : (0 : Int) ≤ (q : Int) := by omega
      have hq1 : (q : Int) < (n : Int) := by omega
      obtain ⟨fn, tmps, assign, body, hy, hR⟩ := HY.out (n - (q + 1)) wr #[.int .i64 (q : Int), rlv r] (by omega) hj.out ⟨q, r, by rw [← HN.out]; omega, hge, rfl⟩
      have HRR := Lib.hid hR
      rw [show n - (q + 1) + 1 = n - q by omega] at HRR
      clear hr hge hra hcell hsl hR hj
      gi_wp2
      refine HRR.out.mono ?_
      rintro e W3 (⟨rfl, hJ3⟩ | ⟨rfl, hJx3⟩)
      · have HJ3 := Lib.hid hJ3
        clear hJ3
        gi_wp2
        go_roundw
        case rel => exact ⟨q, by omega, rfl, HJ3⟩
        case measure => simp [intOf]
      · have HJ3 := Lib.hid hJx3
        clear hJx3
        gi_wp2
        refine bodyPost_ret (results_none rfl _ _ _) rfl ?_
        exact ⟨⟨_, rfl⟩, .inr HJ3.out⟩
end Go.Proofs.Ytidlmbajpbbilaa

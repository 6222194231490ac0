/- School: Keeps. -/
import Derived.Test.YtidlmbajpbbilaaScQ
namespace Go.Proofs.Ytidlmbajpbbilaa
open Go.RowKit
attribute [local go_sem] Oper.semAt_some

/-- a claim, with the address and the capacity of its list -/
structure Clm where
  kind : Int
  sa : Option Addr
  sc : Nat
  sets : List Int
  total : Bool
  clear : Bool
abbrev Clm.cells (c : Clm) : List Value := [.int .i64 c.kind, .slice c.sa c.sets.length c.sc, .bool c.total, .bool c.clear]
def Clm.reads (w : World) (B : Nat) (c : Clm) : Prop := Sl setCell1 1 w B c.sa c.sets ∧ c.sets.length ≤ 1000000 ∧ ∀ x ∈ c.sets, IsU64 x
def ClmsRead (w : World) (B : Nat) (A : Option Addr) (cs : List Clm) : Prop := Sl Clm.cells 4 w B A cs ∧ cs.length ≤ 1000000 ∧ ∀ c ∈ cs, c.reads w B
theorem Clm.reads.below {w w' : World} {B : Nat} {c : Clm} (h : c.reads w B) (hb : Below B w w') : c.reads w' B := ⟨h.1.below hb, h.2⟩
theorem Clm.reads.more {w : World} {B B' : Nat} {c : Clm} (h : c.reads w B) (hb : B ≤ B') : c.reads w B' := ⟨h.1.more hb, h.2⟩
theorem ClmsRead.below {w w' : World} {B : Nat} {A : Option Addr} {cs : List Clm} (h : ClmsRead w B A cs) (hb : Below B w w') : ClmsRead w' B A cs := ⟨h.1.below hb, h.2.1, fun c hc => (h.2.2 c hc).below hb⟩
theorem ClmsRead.more {w : World} {B B' : Nat} {A : Option Addr} {cs : List Clm} (h : ClmsRead w B A cs) (hb : B ≤ B') : ClmsRead w B' A cs := ⟨h.1.more hb, h.2.1, fun c hc => (h.2.2 c hc).more hb⟩
/-- the error of claims -/
def claimsE (s : Sch) : List Clm → Int
  | [] => 0
  | c :: l => if inB c.kind 0 (s.kinds - 1) then (if regB s c.sets then claimsE s l else 4) else 7
/-- a chart with which a claim is not kept -/
def badC (s : Sch) (c : Clm) (k : Nat) : Bool := inR s c.sets k && ((c.total && kdAt s c.kind k == 2) || (c.clear && kdAt s c.kind k == 3))
def keepsI (s : Sch) : List Clm → Nat → Int × Int
  | [], _ => (-1, -1)
  | c :: l, i => if 0 ≤ firstN (badC s c) (chartsC s) then ((i : Int), firstN (badC s c) (chartsC s)) else keepsI s l (i + 1)
def keepsR (s : Sch) (cs : List Clm) : Int × Int × Int :=
  if schB s then (if cs.length ≤ 20 then (if claimsE s cs = 0 then ((keepsI s cs 0).1, (keepsI s cs 0).2, 0) else (0, 0, claimsE s cs)) else (0, 0, 5)) else (0, 0, 2)
theorem claimsE_drop {s : Sch} {cs : List Clm} {j : Nat} (h : j < cs.length) : claimsE s (cs.drop j) = if inB cs[j].kind 0 (s.kinds - 1) then (if regB s cs[j].sets then claimsE s (cs.drop (j + 1)) else 4) else 7 := by
  rw [List.drop_eq_getElem_cons h]; rfl
/-- the marks of ranges over functions that are done -/
def Marks (B : Nat) (W : World) : List Deferred → Prop
  | [] => True
  | d :: ds => (∃ D, d = { target := .collected D, args := #[] } ∧ B ≤ D ∧ W.heap[D]? = some (.deferred (some [])) ∧ ∀ D', { target := .collected D', args := #[] } ∈ ds → D' ≠ D) ∧ Marks B W ds
theorem Marks.at_ {B : Nat} {W : World} : ∀ {ds : List Deferred}, Marks B W ds → ∀ D, ({ target := .collected D, args := #[] } : Deferred) ∈ ds → B ≤ D ∧ W.heap[D]? = some (.deferred (some []))
  | [], _, D, hD => by cases hD
  | d :: ds, h, D, hD => by
    rcases List.mem_cons.1 hD with rfl | hD
    · obtain ⟨⟨D', he, hB, hw, _⟩, _⟩ := h
      simp only [Deferred.mk.injEq, Target.collected.injEq, and_true] at he
      subst he; exact ⟨hB, hw⟩
    · exact Marks.at_ h.2 D hD
theorem Marks.keep {B : Nat} {W W' : World} : ∀ {ds : List Deferred}, Marks B W ds → (∀ D, ({ target := .collected D, args := #[] } : Deferred) ∈ ds → W.heap[D]? = some (.deferred (some [])) → W'.heap[D]? = some (.deferred (some []))) → Marks B W' ds
  | [], _, _ => trivial
  | d :: ds, h, hk => by
    obtain ⟨⟨D, he, hB, hw, hne⟩, hr⟩ := h
    exact ⟨⟨D, he, hB, hk D (by rw [he]; exact List.mem_cons_self ..) hw, hne⟩, hr.keep fun D' hD' => hk D' (List.mem_cons_of_mem _ hD')⟩
theorem Marks.below {B : Nat} {W W' : World} {ds : List Deferred} (h : Marks B W ds) (hb : Below W.heap.size W W') : Marks B W' ds :=
  h.keep fun D _ hw => (hb.block D (Array.getElem?_eq_some_iff.1 hw).1).trans hw
theorem Marks.push {B : Nat} {Ws W : World} {ds : List Deferred} (h0 : Marks B Ws ds) (h : Marks B W ds) (hB : B ≤ Ws.heap.size) {D : Nat} (hD : Ws.heap.size ≤ D) (hw : W.heap[D]? = some (.deferred (some []))) : Marks B W ({ target := .collected D, args := #[] } :: ds) :=
  ⟨⟨D, rfl, by omega, hw, fun D' hD' => by have := (Array.getElem?_eq_some_iff.1 (h0.at_ D' hD').2).1; omega⟩, h⟩
theorem Marks.stab {B Bs : Nat} {Ws : World} {ds : List Deferred} (h0 : Marks B Ws ds) (hB : Ws.heap.size ≤ Bs) : Stab Bs (fun W => Marks B W ds) := fun W W' row h hg hr =>
  h.keep fun D hD hw => Stab.lowBlk (B := Bs) D (by have := (Array.getElem?_eq_some_iff.1 (h0.at_ D hD).2).1; omega) _ W W' row hw hg hr
theorem leaves_marks {fn : Func} {R : Ending → World → Prop} {B : Nat} {tmps : Array Value} {v : Value} {Pw : World → Prop} (hR : ∀ W', Pw W' → (results fn tmps).run Try.prog W' = .ok v W' ∧ R (.returned v) W')
    (hP : ∀ W' D, Pw W' → B ≤ D → W'.heap[D]? = some (.deferred (some [])) → Pw (W'.putObj D (.deferred none))) : ∀ (ds : List Deferred) (W : World), Marks B W ds → Pw W → LeavesInM Fence.wide 2 Try.prog fn tmps R ds .returning W
  | [], W, _, hp => ⟨v, (hR W hp).1, (hR W hp).2⟩
  | d :: ds, W, h, hp => by
    obtain ⟨⟨D, he, hB, hw, hne⟩, hr⟩ := h
    subst he
    refine ⟨by simp, .inl ⟨_, _, rfl, run_takeDeferred hw, leaves_marks hR hP ds _ ?_ (hP W D hp hB hw)⟩⟩
    exact hr.keep fun D' hD' hw' => (World.putObj_heap_other (hne D' hD')).trans hw'
theorem marks_retN {fn : Func} {R : Ending → World → Prop} {a : Act} {W : World} {v : Value} {B : Nat} (Pw : World → Prop) (hm : Marks B W a.defers) (hp : Pw W)
    (hP : ∀ W' D, Pw W' → B ≤ D → W'.heap[D]? = some (.deferred (some [])) → Pw (W'.putObj D (.deferred none))) (hR : ∀ W', Pw W' → (results fn a.tmps).run Try.prog W' = .ok v W' ∧ R (.returned v) W') :
    bodyPostM Fence.wide 2 Try.prog fn R .ret a W := leaves_marks hR hP a.defers W hm hp
theorem claimsE_zero {s : Sch} : ∀ {l : List Clm}, claimsE s l = 0 → ∀ c ∈ l, inB c.kind 0 (s.kinds - 1) = true ∧ regB s c.sets = true
  | [], _, c, hc => by cases hc
  | x :: l, h, c, hc => by
    simp only [claimsE] at h
    split at h
    · split at h
      · rcases List.mem_cons.1 hc with rfl | hc
        · exact ⟨by assumption, by assumption⟩
        · exact claimsE_zero h c hc
      · omega
    · omega
theorem keepsI_drop {s : Sch} {cs : List Clm} {j : Nat} (h : j < cs.length) : keepsI s (cs.drop j) j = if 0 ≤ firstN (badC s cs[j]) (chartsC s) then ((j : Int), firstN (badC s cs[j]) (chartsC s)) else keepsI s (cs.drop (j + 1)) (j + 1) := by
  rw [List.drop_eq_getElem_cons h]; rfl
theorem keepsR_err {s : Sch} {cs : List Clm} {e : Int} (h1 : schB s = true) (h2 : cs.length ≤ 20) (h3 : claimsE s cs = e) (h4 : e ≠ 0) : keepsR s cs = (0, 0, e) := by simp [keepsR, h1, h2, h3, h4]
def Ret3 (r : Int × Int × Int) (w : World) (e : Ending) (w' : World) : Prop := e = .returned (.tuple #[.int .i64 r.1, .int .i64 r.2.1, .int .i64 r.2.2]) ∧ Below w.heap.size w w'

set_option maxRecDepth 100000 in
set_option maxHeartbeats 4000000 in
theorem keeps_any (s : Sch) (cs : List Clm) (A : Option Addr) (c : Nat) (w : World) (hr : s.reads w w.heap.size) (hA : ClmsRead w w.heap.size A cs) :
    Calls Try.prog 23 #[scv s s.rv, .slice A cs.length c] w (Ret3 (keepsR s cs) w) := by
  have hlm := hA.2.1
  by_cases vs : schB s = true
  · have V := valid_of hr.oks vs
    have HC := fun W (hW : Below w.heap.size w W) => Lib.hid (chk_any vs W ((hr.below hW).more hW.size))
    by_cases h20 : cs.length ≤ 20
    · have d20 : decide ((20 : Int) < (cs.length : Int)) = false := by simp; omega
      refine calls_marks Try.func23 rfl ?_
      simp only [Try.ntmps23, List.size_toArray, List.length_cons, List.length_nil, Nat.reduceAdd, Nat.reduceSub, Array.replicate_succ, Array.replicate_zero, List.push_toArray, List.append_toArray, List.nil_append, List.cons_append]
      go_wp2_with fail
      refine ((HC _ (by (repeat (first | exact Below.refl _ _ | assumption | (refine Below.alloc ?_ (by first | omega | (simp; omega) | (simp; done)) _) | (refine Below.setCell ?_ (by first | omega | (simp; omega) | (simp; done)) _) | (refine Below.drew ?_) | (refine belowN ?_ _) | (refine Below.trans ?_ (Below.mono ‹Below _ _ _› (by first | omega | (simp; omega) | (simp; done)))))))).out).mono ?_
      rintro e w1 ⟨rfl, hb1⟩
      have hc1 := fun b o (h : b < w.heap.size + 4) => (bcell hb1).1 b o (by simp; omega)
      have hf1 := fun b o (h : b < w.heap.size + 4) => (bcell hb1).2 b o (by simp; omega)
      have hk1 := fun b (h : b < w.heap.size + 4) => hb1.block b (by simp; omega)
      have hz1 : w.heap.size + 4 ≤ w1.heap.size := (by have := hb1.size; simp at this; omega)
      go_wp2
      refine wp_world (fun W => Below w.heap.size w W ∧ w.heap.size + 4 ≤ W.heap.size ∧ Blk W w.heap.size #[.int .i64 s.places, .int .i64 s.signs, .int .i64 s.kinds, .int .i64 s.answers, s.rv] 24 ∧
        Blk W (w.heap.size + 1) #[.int .i64 0] 3 ∧ Blk W (w.heap.size + 1 + 1) #[.int .i64 0] 3 ∧ Blk W (w.heap.size + 1 + 1 + 1) #[.int .i64 0] 31) ?_ ?_
      · exact ⟨by (repeat (first | exact Below.refl _ _ | assumption | (refine Below.alloc ?_ (by first | omega | (simp; omega) | (simp; done)) _) | (refine Below.setCell ?_ (by first | omega | (simp; omega) | (simp; done)) _) | (refine Below.drew ?_) | (refine belowN ?_ _) | (refine Below.trans ?_ (Below.mono ‹Below _ _ _› (by first | omega | (simp; omega) | (simp; done)))))), hz1, (hk1 _ (by omega)).trans ((((Blk.at_ (by simp)).alloc _).alloc _).alloc _), (hk1 _ (by omega)).trans (((Blk.at_ (by simp)).alloc _).alloc _), (hk1 _ (by omega)).trans ((Blk.at_ (by simp)).alloc _), (hk1 _ (by omega)).trans (Blk.at_ (by simp))⟩
      clear hc1 hf1 hk1 hz1 hb1 HC
      rintro Wl ⟨hbl, hzl, g0, g4, g5, g6⟩
      have hn : 0 < 1 := by omega
      have HA := Lib.hid hA
      have HRR := Lib.hid hr
      have HK := fun kind W => Lib.hid (isKind_any s s.rv kind W V.kinds.1 V.kinds.2)
      have HI := fun (cl : Clm) W (hW : cl.reads W W.heap.size) => Lib.hid (regValid_any s s.rv cl.sa cl.sc cl.sets W V.small hW.2.1 hW.2.2 hW.1)
      have HBL := Lib.hid hbl
      go_loopw [25] (fun i wr => ∃ j : Nat, j ≤ cs.length ∧ i = .int .i64 j ∧ Below Wl.heap.size Wl wr ∧ Hid (claimsE s cs = claimsE s (cs.drop j))) (fun i _ => cs.length - (intOf i).toNat)
      case atStart => exact ⟨0, by omega, rfl, Below.refl _ _, rfl⟩
      case round =>
        obtain ⟨j, hj, rfl, hbj, HE⟩ := hrel
        have hszj := hbj.size
        have c0 := (g0.below hbj (by omega)).cell
        have f4 := (g4.below hbj (by omega)).free 0; have f5 := (g5.below hbj (by omega)).free 0; have f6 := (g6.below hbj (by omega)).free 0
        have d4 := (g4.below hbj (by omega)).cell 0; have d5 := (g5.below hbj (by omega)).cell 0; have d6 := (g6.below hbj (by omega)).cell 0
        have s0 := c0 0; have s1 := c0 1; have s2 := c0 2; have s3 := c0 3; have s4 := c0 4
        simp at s0 s1 s2 s3 s4 d4 d5 d6
        by_cases hlt : j < cs.length
        · have hbw : Below w.heap.size w wr := hbl.trans (hbj.mono hbl.size)
          have hAr := HA.out.below hbw
          obtain ⟨ab, ao, rfl, hblk, hcell⟩ := hAr.1.at_ (k := j) (fun _ => rfl) hlt
          have hcr := hAr.2.2 _ (List.getElem_mem hlt)
          have HE2 := Lib.hid (claimsE_drop (s := s) hlt)
          obtain ⟨cl, hcl⟩ : ∃ t, cs[j] = t := ⟨_, rfl⟩
          rw [hcl] at hcell hcr HE2
          have k0 : wr.cell? ⟨ab, ao + j * 4, none⟩ = some (.int .i64 cl.kind) := hcell 0 _ rfl
          have k1 : wr.cell? ⟨ab, ao + j * 4 + 1, none⟩ = some (.slice cl.sa cl.sets.length cl.sc) := hcell 1 _ rfl
          have k2 : wr.cell? ⟨ab, ao + j * 4 + 2, none⟩ = some (.bool cl.total) := hcell 2 _ rfl
          have k3 : wr.cell? ⟨ab, ao + j * 4 + 3, none⟩ = some (.bool cl.clear) := hcell 3 _ rfl
          have HCR := Lib.hid hcr
          have l0 : w.heap.size < wr.heap.size := by omega
          have l1 : w.heap.size + 1 < wr.heap.size := by omega
          have l2 : w.heap.size + 1 + 1 < wr.heap.size := by omega
          have l3 : w.heap.size + 1 + 1 + 1 < wr.heap.size := by omega
          clear hcell hcl hAr hcr c0
          have HBW := Lib.hid hbw
          have HKC := HK cl.kind
          by_cases hkd : inB cl.kind 0 (s.kinds - 1) = true
          · rw [hkd] at HKC
            have HIC := HI cl
            by_cases hrg : regB s cl.sets = true
            · rw [hrg] at HIC
              have HE3 : Hid (claimsE s cs = claimsE s (cs.drop (j + 1))) := by show _ = _; rw [HE.out, HE2.out, hkd, hrg]; rfl
              clear hkd hrg
              go_wp2_with fail
              refine ((HKC _).out).mono ?_
              rintro e w2 ⟨rfl, hb2⟩
              have hc2 := fun b o (h : b < wr.heap.size + 1) => (bcell hb2).1 b o (by simp; omega)
              have hf2 := fun b o (h : b < wr.heap.size + 1) => (bcell hb2).2 b o (by simp; omega)
              have hz2 : wr.heap.size + 1 ≤ w2.heap.size := by have := hb2.size; simp at this; omega
              have HB2 := Lib.hid (show Below Wl.heap.size Wl w2 from (hbj.alloc hszj _).trans (hb2.mono (by simp; omega)))
              go_wp2_with fail
              refine ((HIC w2 ((HCR.out.below (((Below.refl _ wr).alloc (Nat.le_refl _) _).trans (hb2.mono (by simp)) |>.mono HBW.out.size)).more (by omega))).out).mono ?_
              rintro e w3 ⟨rfl, hb3⟩
              have hc3 := fun b o (h : b < wr.heap.size + 1) => ((bcell hb3).1 b o (by omega)).trans (hc2 b o h)
              have hf3 := fun b o (h : b < wr.heap.size + 1) => ((bcell hb3).2 b o (by omega)).trans (hf2 b o h)
              have hz3 : wr.heap.size + 1 ≤ w3.heap.size := by have := hb3.size; omega
              have HB3 := Lib.hid (show Below Wl.heap.size Wl w3 from HB2.out.trans (hb3.mono (by omega)))
              go_wp2
              go_roundw
              case rel => exact ⟨j + 1, by omega, by go_num, HB3.out, HE3⟩
              case measure => simp [intOf]; omega
            · simp only [Bool.not_eq_true] at hrg
              rw [hrg] at HIC
              have HR := Lib.hid (keepsR_err (e := 4) vs h20 (by rw [HE.out, HE2.out, hkd, hrg]; rfl) (by omega))
              clear hkd hrg
              go_wp2_with fail
              refine ((HKC _).out).mono ?_
              rintro e w2 ⟨rfl, hb2⟩
              have hc2 := fun b o (h : b < wr.heap.size + 1) => (bcell hb2).1 b o (by simp; omega)
              have hf2 := fun b o (h : b < wr.heap.size + 1) => (bcell hb2).2 b o (by simp; omega)
              have hz2 : wr.heap.size + 1 ≤ w2.heap.size := by have := hb2.size; simp at this; omega
              have HB2 := Lib.hid (show Below Wl.heap.size Wl w2 from (hbj.alloc hszj _).trans (hb2.mono (by simp; omega)))
              go_wp2_with fail
              refine ((HIC w2 ((HCR.out.below (((Below.refl _ wr).alloc (Nat.le_refl _) _).trans (hb2.mono (by simp)) |>.mono HBW.out.size)).more (by omega))).out).mono ?_
              rintro e w3 ⟨rfl, hb3⟩
              have hc3 := fun b o (h : b < wr.heap.size + 1) => ((bcell hb3).1 b o (by omega)).trans (hc2 b o h)
              have hf3 := fun b o (h : b < wr.heap.size + 1) => ((bcell hb3).2 b o (by omega)).trans (hf2 b o h)
              have hz3 : wr.heap.size + 1 ≤ w3.heap.size := by have := hb3.size; omega
              have HB3 := Lib.hid (show Below Wl.heap.size Wl w3 from HB2.out.trans (hb3.mono (by omega)))
              go_wp2
              have n4 := (((g4.below HB3.out (by omega)).set 0 (.int .i64 0)).far ⟨w.heap.size + 1 + 1, 0, none⟩ (by first | (simp; done) | (simp; omega)) (.int .i64 0)).far ⟨w.heap.size + 1 + 1 + 1, 0, none⟩ (by first | (simp; done) | (simp; omega)) (.int .i64 4)
              have n5 := (((g5.below HB3.out (by omega)).far ⟨w.heap.size + 1, 0, none⟩ (by first | (simp; done) | (simp; omega)) (.int .i64 0)).set 0 (.int .i64 0)).far ⟨w.heap.size + 1 + 1 + 1, 0, none⟩ (by first | (simp; done) | (simp; omega)) (.int .i64 4)
              have n6 := (((g6.below HB3.out (by omega)).far ⟨w.heap.size + 1, 0, none⟩ (by first | (simp; done) | (simp; omega)) (.int .i64 0)).far ⟨w.heap.size + 1 + 1, 0, none⟩ (by first | (simp; done) | (simp; omega)) (.int .i64 0)).set 0 (.int .i64 4)
              have e4 := n4.cell 0; have e5 := n5.cell 0; have e6 := n6.cell 0
              simp at e4 e5 e6
              refine marks_ret0 (v := .tuple #[.int .i64 0, .int .i64 0, .int .i64 4]) rfl (by simp [results, Try.results23, go_sem, e4, e5, e6]) ?_
              rw [HR.out]
              exact ⟨rfl, ((HBL.out.trans (HB3.out.mono HBL.out.size)).setCell (by first | omega | (simp; omega) | (simp; done)) _ |>.setCell (by first | omega | (simp; omega) | (simp; done)) _).setCell (by first | omega | (simp; omega) | (simp; done)) _⟩
          · simp only [Bool.not_eq_true] at hkd
            rw [hkd] at HKC
            have HR := Lib.hid (keepsR_err (e := 7) vs h20 (by rw [HE.out, HE2.out, hkd]; rfl) (by omega))
            clear hkd
            go_wp2_with fail
            refine ((HKC _).out).mono ?_
            rintro e w2 ⟨rfl, hb2⟩
            have hc2 := fun b o (h : b < wr.heap.size + 1) => (bcell hb2).1 b o (by simp; omega)
            have hf2 := fun b o (h : b < wr.heap.size + 1) => (bcell hb2).2 b o (by simp; omega)
            have hz2 : wr.heap.size + 1 ≤ w2.heap.size := by have := hb2.size; simp at this; omega
            have HB2 := Lib.hid (show Below Wl.heap.size Wl w2 from (hbj.alloc hszj _).trans (hb2.mono (by simp; omega)))
            go_wp2
            have n4 := (((g4.below HB2.out (by omega)).set 0 (.int .i64 0)).far ⟨w.heap.size + 1 + 1, 0, none⟩ (by first | (simp; done) | (simp; omega)) (.int .i64 0)).far ⟨w.heap.size + 1 + 1 + 1, 0, none⟩ (by first | (simp; done) | (simp; omega)) (.int .i64 7)
            have n5 := (((g5.below HB2.out (by omega)).far ⟨w.heap.size + 1, 0, none⟩ (by first | (simp; done) | (simp; omega)) (.int .i64 0)).set 0 (.int .i64 0)).far ⟨w.heap.size + 1 + 1 + 1, 0, none⟩ (by first | (simp; done) | (simp; omega)) (.int .i64 7)
            have n6 := (((g6.below HB2.out (by omega)).far ⟨w.heap.size + 1, 0, none⟩ (by first | (simp; done) | (simp; omega)) (.int .i64 0)).far ⟨w.heap.size + 1 + 1, 0, none⟩ (by first | (simp; done) | (simp; omega)) (.int .i64 0)).set 0 (.int .i64 7)
            have e4 := n4.cell 0; have e5 := n5.cell 0; have e6 := n6.cell 0
            simp at e4 e5 e6
            refine marks_ret0 (v := .tuple #[.int .i64 0, .int .i64 0, .int .i64 7]) rfl (by simp [results, Try.results23, go_sem, e4, e5, e6]) ?_
            rw [HR.out]
            exact ⟨rfl, ((HBL.out.trans (HB2.out.mono HBL.out.size)).setCell (by first | omega | (simp; omega) | (simp; done)) _ |>.setCell (by first | omega | (simp; omega) | (simp; done)) _).setCell (by first | omega | (simp; omega) | (simp; done)) _⟩
        · have HE0 : Hid (claimsE s cs = 0) := by show _ = _; rw [HE.out, List.drop_eq_nil_of_le (by omega)]; rfl
          obtain rfl : j = cs.length := by omega
          have hszr := hbj.size
          go_wp2
          obtain ⟨rr, hrr⟩ : ∃ r, r = wr.heap.size := ⟨_, rfl⟩
          refine wp_world (fun W => Below w.heap.size w W ∧ W.heap.size = rr + 1 ∧ Blk W w.heap.size #[.int .i64 s.places, .int .i64 s.signs, .int .i64 s.kinds, .int .i64 s.answers, s.rv] 24 ∧
            Blk W (w.heap.size + 1) #[.int .i64 0] 3 ∧ Blk W (w.heap.size + 1 + 1) #[.int .i64 0] 3 ∧ Blk W (w.heap.size + 1 + 1 + 1) #[.int .i64 0] 31 ∧
            Blk W rr #[.int .i64 s.places, .int .i64 s.signs, .int .i64 s.kinds, .int .i64 s.answers, s.rv, .int .u32 0] 108) ?_ ?_
          · exact ⟨(hbl.trans (hbj.mono hbl.size)).alloc (by have := hbl.size; omega) _, by simp [hrr], (g0.below hbj (by omega)).alloc _, (g4.below hbj (by omega)).alloc _, (g5.below hbj (by omega)).alloc _, (g6.below hbj (by omega)).alloc _, Blk.at_ hrr⟩
          have hrz : w.heap.size + 1 + 1 + 1 < rr := by omega
          rw [← hrr]
          clear s0 s1 s2 s3 s4 d4 d5 d6 f4 f5 f6 g0 g4 g5 g6 c0 hbj HE hszr hrr HBL HI HK hbl hzl
          rintro Wm ⟨hbm, hzm, g0, g4, g5, g6, gr⟩
          have HR := Lib.hid (show keepsR s cs = ((keepsI s cs 0).1, (keepsI s cs 0).2, 0) by simp [keepsR, vs, h20, HE0.out])
          refine wp_loop (fun a' W => ∃ (u3 u7 u8 u10 u11 u12 u13 u14 u15 u16 u17 u18 u19 u20 u21 u22 u23 u24 u25 u26 u27 u28 u29 u30 u31 u32 u33 u34 u35 u36 u37 u38 u39 u40 u41 u42 u43 u47 u48 u49 u50 u51 u52 u53 u54 u55 u56 u57 u58 u59 u60 u61 u62 u63 u64 u65 u66 u67 u68 u69 u70 u71 u72 u73 u74 u75 u76 u77 u78 u79 u80 u81 u82 u83 u84 u85 u86 : Value) (j : Nat) (ds : List Deferred), (j ≤ cs.length ∧ Below Wm.heap.size Wm W ∧ Marks Wm.heap.size W ds ∧ Hid (keepsI s cs 0 = keepsI s (cs.drop j) j)) ∧
            a' = { tmps := #[scv s s.rv, .slice A cs.length c, .pointer (some ⟨w.heap.size, 0, none⟩), u3, .pointer (some ⟨w.heap.size + 1, 0, none⟩), .pointer (some ⟨w.heap.size + 1 + 1, 0, none⟩), .pointer (some ⟨w.heap.size + 1 + 1 + 1, 0, none⟩), u7, u8, .pointer (some ⟨rr, 0, none⟩), u10, u11, u12, u13, u14, u15, u16, u17, u18, u19, u20, u21, u22, u23, u24, u25, u26, u27, u28, u29, u30, u31, u32, u33, u34, u35, u36, u37, u38, u39, u40, u41, u42, u43, .slice A cs.length c, .int .i64 cs.length, .int .i64 j, u47, u48, u49, u50, u51, u52, u53, u54, u55, u56, u57, u58, u59, u60, u61, u62, u63, u64, u65, u66, u67, u68, u69, u70, u71, u72, u73, u74, u75, u76, u77, u78, u79, u80, u81, u82, u83, u84, u85, u86], defers := ds }) (fun a' _ => cs.length - (intOf (a'.tmps.getD 46 undef)).toNat) ?_ ?_
          · exact ⟨_, _, _, _, _, _, _, _, _, _, _, _, _, _, _, _, _, _, _, _, _, _, _, _, _, _, _, _, _, _, _, _, _, _, _, _, _, _, _, _, _, _, _, _, _, _, _, _, _, _, _, _, _, _, _, _, _, _, _, _, _, _, _, _, _, _, _, _, _, _, _, _, _, _, _, _, _, 0, [], ⟨by omega, Below.refl _ _, trivial, rfl⟩, rfl⟩
          · intro a' W h
            obtain ⟨u3, h⟩ := h
            obtain ⟨u7, h⟩ := h
            obtain ⟨u8, h⟩ := h
            obtain ⟨u10, h⟩ := h
            obtain ⟨u11, h⟩ := h
            obtain ⟨u12, h⟩ := h
            obtain ⟨u13, h⟩ := h
            obtain ⟨u14, h⟩ := h
            obtain ⟨u15, h⟩ := h
            obtain ⟨u16, h⟩ := h
            obtain ⟨u17, h⟩ := h
            obtain ⟨u18, h⟩ := h
            obtain ⟨u19, h⟩ := h
            obtain ⟨u20, h⟩ := h
            obtain ⟨u21, h⟩ := h
            obtain ⟨u22, h⟩ := h
            obtain ⟨u23, h⟩ := h
            obtain ⟨u24, h⟩ := h
            obtain ⟨u25, h⟩ := h
            obtain ⟨u26, h⟩ := h
            obtain ⟨u27, h⟩ := h
            obtain ⟨u28, h⟩ := h
            obtain ⟨u29, h⟩ := h
            obtain ⟨u30, h⟩ := h
            obtain ⟨u31, h⟩ := h
            obtain ⟨u32, h⟩ := h
            obtain ⟨u33, h⟩ := h
            obtain ⟨u34, h⟩ := h
            obtain ⟨u35, h⟩ := h
            obtain ⟨u36, h⟩ := h
            obtain ⟨u37, h⟩ := h
            obtain ⟨u38, h⟩ := h
            obtain ⟨u39, h⟩ := h
            obtain ⟨u40, h⟩ := h
            obtain ⟨u41, h⟩ := h
            obtain ⟨u42, h⟩ := h
            obtain ⟨u43, h⟩ := h
            obtain ⟨u47, h⟩ := h
            obtain ⟨u48, h⟩ := h
            obtain ⟨u49, h⟩ := h
            obtain ⟨u50, h⟩ := h
            obtain ⟨u51, h⟩ := h
            obtain ⟨u52, h⟩ := h
            obtain ⟨u53, h⟩ := h
            obtain ⟨u54, h⟩ := h
            obtain ⟨u55, h⟩ := h
            obtain ⟨u56, h⟩ := h
            obtain ⟨u57, h⟩ := h
            obtain ⟨u58, h⟩ := h
            obtain ⟨u59, h⟩ := h
            obtain ⟨u60, h⟩ := h
            obtain ⟨u61, h⟩ := h
            obtain ⟨u62, h⟩ := h
            obtain ⟨u63, h⟩ := h
            obtain ⟨u64, h⟩ := h
            obtain ⟨u65, h⟩ := h
            obtain ⟨u66, h⟩ := h
            obtain ⟨u67, h⟩ := h
            obtain ⟨u68, h⟩ := h
            obtain ⟨u69, h⟩ := h
            obtain ⟨u70, h⟩ := h
            obtain ⟨u71, h⟩ := h
            obtain ⟨u72, h⟩ := h
            obtain ⟨u73, h⟩ := h
            obtain ⟨u74, h⟩ := h
            obtain ⟨u75, h⟩ := h
            obtain ⟨u76, h⟩ := h
            obtain ⟨u77, h⟩ := h
            obtain ⟨u78, h⟩ := h
            obtain ⟨u79, h⟩ := h
            obtain ⟨u80, h⟩ := h
            obtain ⟨u81, h⟩ := h
            obtain ⟨u82, h⟩ := h
            obtain ⟨u83, h⟩ := h
            obtain ⟨u84, h⟩ := h
            obtain ⟨u85, h⟩ := h
            obtain ⟨u86, h⟩ := h
            obtain ⟨j, ds, ⟨hj, hbW, hmk, HE⟩, ha⟩ := h
            subst ha
            have hszW := hbW.size
            have hbw : Below w.heap.size w W := hbm.trans (hbW.mono hbm.size)
            by_cases hlt : j < cs.length
            · have hAr := HA.out.below hbw
              obtain ⟨ab, ao, rfl, hblk, hcell⟩ := hAr.1.at_ (k := j) (fun _ => rfl) hlt
              have hcr := hAr.2.2 _ (List.getElem_mem hlt)
              have HE2 := Lib.hid (keepsI_drop (s := s) hlt)
              obtain ⟨cl, hcl⟩ : ∃ t, cs[j] = t := ⟨_, rfl⟩
              rw [hcl] at hcell hcr HE2
              have HCL := Lib.hid hcl
              have k0 : W.cell? ⟨ab, ao + j * 4, none⟩ = some (.int .i64 cl.kind) := hcell 0 _ rfl
              have k1 : W.cell? ⟨ab, ao + j * 4 + 1, none⟩ = some (.slice cl.sa cl.sets.length cl.sc) := hcell 1 _ rfl
              have k2 : W.cell? ⟨ab, ao + j * 4 + 2, none⟩ = some (.bool cl.total) := hcell 2 _ rfl
              have k3 : W.cell? ⟨ab, ao + j * 4 + 3, none⟩ = some (.bool cl.clear) := hcell 3 _ rfl
              have c0 := (g0.below hbW (by omega)).cell
              have s0 := c0 0; have s1 := c0 1; have s2 := c0 2; have s3 := c0 3; have s4 := c0 4
              simp at s0 s1 s2 s3 s4
              have l0 : w.heap.size < W.heap.size := by omega
              have l1 : w.heap.size < W.heap.size + 1 := by omega
              have l2 : w.heap.size < W.heap.size + 1 + 1 := by omega
              have HMK := Lib.hid hmk; have HBW := Lib.hid hbw; have HBm := Lib.hid hbW
              clear hmk hbw hcell hcl hAr c0
              go_wp2
              have hcv := claimsE_zero HE0.out cs[j] (List.getElem_mem hlt)
              rw [HCL.out] at hcv
              obtain ⟨hki, hrg⟩ := hcv
              have kin := inB_iff.1 hki
              obtain ⟨zz, hzz⟩ : ∃ b, b = W.heap.size := ⟨_, rfl⟩
              rw [← hzz]
              refine wp_world (fun W' => Below W.heap.size W W' ∧ W'.heap.size = zz + 3 ∧ Blk W' zz #[.int .i64 j] 3 ∧ Blk W' (zz + 1) #[.int .i64 cl.kind, .slice cl.sa cl.sets.length cl.sc, .bool cl.total, .bool cl.clear] 43 ∧ Blk W' (zz + 1 + 1) #[.int .i64 s.places, .int .i64 s.signs, .int .i64 s.kinds, .int .i64 s.answers, s.rv] 24) ?_ ?_
              · exact ⟨by (repeat (first | exact Below.refl _ _ | assumption | (refine Below.alloc ?_ (by first | omega | (simp; omega) | (simp; done)) _) | (refine Below.setCell ?_ (by first | omega | (simp; omega) | (simp; done)) _) | (refine Below.drew ?_) | (refine belowN ?_ _) | (refine Below.trans ?_ (Below.mono ‹Below _ _ _› (by first | omega | (simp; omega) | (simp; done)))))), by simp [hzz], ((Blk.at_ hzz).alloc _).alloc _, (Blk.at_ (by simp [hzz])).alloc _, Blk.at_ (by simp [hzz])⟩
              rintro Ws ⟨hbs, hzs, q0, q1, q2⟩
              have hbws : Below w.heap.size w Ws := HBW.out.trans (hbs.mono (by omega))
              have hbms : Below Wm.heap.size Wm Ws := HBm.out.trans (hbs.mono (by omega))
              have hms := HMK.out.below hbs
              obtain ⟨tt, htt⟩ : ∃ b, b = cl.total := ⟨_, rfl⟩
              obtain ⟨cc, hcc⟩ : ∃ b, b = cl.clear := ⟨_, rfl⟩
              rw [← htt, ← hcc] at q1
              have HTT := Lib.hid htt; have HCC := Lib.hid hcc
              have HZZ := Lib.hid hzz
              clear htt hcc hzz s0 s1 s2 s3 s4 k0 k1 k2 k3 l0 l1 l2
              refine wp_rangeS (lb := #[.pointer (some ⟨zz + 1 + 1, 0, none⟩)]) rfl ent_all1 (all1_iter s s.rv (zz + 1 + 1) V.small V.charts) [(12, 0), (13, 1)]
                (fun k W' => Below Ws.heap.size Ws W' ∧ Hid (∀ i, i < k → badC s cl i = false))
                (fun c W' => c = .ret ∧ ∃ k, k < chartsC s ∧ Hid (∀ i, i < k → badC s cl i = false) ∧ badC s cl k = true ∧ Below w.heap.size w W' ∧ Blk W' (w.heap.size + 1) #[.int .i64 (j : Int)] 3 ∧ Blk W' (w.heap.size + 1 + 1) #[.int .i64 (k : Int)] 3 ∧ Blk W' (w.heap.size + 1 + 1 + 1) #[.int .i64 0] 31 ∧ Marks Wm.heap.size W' ds)
                (fun k => (Stab.low (Nat.le_refl _) _ (Nat.le_refl _)).and (Stab.pure _)) ?hIx ?hE ?hD ⟨Below.refl _ _, fun i h => by omega⟩ ?hps ?hassign ?hbody ?hdone ?hstop
              case hIx => exact fun c => (Stab.pure _).and (Stab.ex fun k => (Stab.pure _).and ((Stab.pure _).and ((Stab.pure _).and ((Stab.low hbws.size _ (Nat.le_refl _)).and ((Stab.blk _ _ _ _).and ((Stab.blk _ _ _ _).and ((Stab.blk _ _ _ _).and (Marks.stab hms (Nat.le_refl _)))))))))
              case hE => exact fun k xs => Stab.ex fun A => Stab.ex fun c => (Stab.pure _).and (Stab.sl _ _)
              case hD => exact fun k W hi => ⟨by have := hi.1.size; omega, by rw [(q2.below hi.1 (by omega)).cell]; rfl, by rw [(q2.below hi.1 (by omega)).cell]; rfl, by rw [(q2.below hi.1 (by omega)).cell]; rfl, by rw [(q2.below hi.1 (by omega)).cell]; rfl, by rw [(q2.below hi.1 (by omega)).cell]; rfl⟩
              case hps => rintro k W xs ⟨A, c, rfl, _⟩; rfl
              case hassign =>
                rintro l k xs W K ⟨A, c, rfl, _⟩ hK
                rw [round2] at hK
                rw [fold2]
                simp only [List.setIfInBounds_toArray, List.set_cons_succ, List.set_cons_zero] at hK ⊢
                gi_wp2
                exact hK
              case hbody =>
                rintro l k xs W' hk ⟨hb2, hno⟩ ⟨A', c', rfl, hsl⟩ hl1 hl2
                rw [round2]
                simp only [List.setIfInBounds_toArray, List.set_cons_succ, List.set_cons_zero]
                have hb2w := hbws.trans (hb2.mono hbws.size)
                have hsz2 := hb2.size
                have hln : (chartL s k).length = s.places.toNat := digits_len _ _ _
                have HQ := Lib.hid (asks0 (c := c') V ((HRR.out.below hb2w).more hb2w.size) kin.1 (by omega) hln rfl (chartL_bd V k) hsl)
                have hcl2 := (hcr.below (((hbs.mono (by have := HBW.out.size; omega : w.heap.size ≤ W.heap.size))).trans (hb2.mono hbws.size))).more (B' := W'.heap.size) hb2w.size
                have HHAS := regHas_any cl.sa A' cl.sc c' cl.sets (chartL s k) W' (by rw [hln]; have := V.places; omega) (by rw [hln]; have := hrg; simp [regB] at this; omega) hcl2.2.2 (chartL_bd V k) hcl2.1 hsl
                rw [hln] at HHAS
                have HB2 := Lib.hid hb2; have HB2W := Lib.hid hb2w
                have hbad : Hid (badC s cl k = (inR s cl.sets k && ((tt && kdAt s cl.kind k == 2) || (cc && kdAt s cl.kind k == 3)))) := by show _ = _; rw [HTT.out, HCC.out]; rfl
                have cl1 := (q1.below hb2 (by omega)).cell
                have m0 := cl1 0; have m1 := cl1 1; have m2 := cl1 2; have m3 := cl1 3
                have rc := (gr.below (HBm.out.trans (hbs.mono (by omega)) |>.trans (hb2.mono hbms.size)) (by omega)).cell
                have r0 := rc 0; have r1 := rc 1; have r2 := rc 2; have r3 := rc 3; have r4 := rc 4; have r5 := rc 5
                have z0 := (q0.below hb2 (by omega)).cell 0
                simp at m0 m1 m2 m3 r0 r1 r2 r3 r4 r5 z0
                clear cl1 rc hcl2 hb2 hb2w
                have HSL := Lib.hid hsl
                clear hsl
                have HKD := fun W => Lib.hid (show Calls Try.prog 58 #[.int .u32 ((ansN s 0 cl.kind (chartL s k) : Nat) : Int)] W fun e w' => e = .returned (.int .i64 (kdAt s cl.kind k)) ∧ Below W.heap.size W w' from kind_any (ansOf s 0 cl.kind (chartL s k)) W)
                have hkc : kdAt s cl.kind k = 2 ∨ kdAt s cl.kind k = 3 ∨ kdAt s cl.kind k = 1 := kindOf_cases _
                by_cases hin : inR s cl.sets k = true
                · rw [show hasB cl.sets (chartL s k) = true from hin] at HHAS
                  have HHAS := Lib.hid HHAS
                  obtain ⟨kd, hkd⟩ : ∃ x, x = kdAt s cl.kind k := ⟨_, rfl⟩
                  rw [← hkd] at HKD hbad hkc
                  rw [hin] at hbad
                  clear hin hkd
                  gi_wp2
                  refine ⟨trivial, (CallsIn.inRound l (callsIn_wide.2 HHAS.out)).mono ?_⟩
                  rintro e w' ⟨rfl, rfl⟩
                  gi_wp2
                  (refine wpIn_region_ext (by kernel_rfl) (by kernel_rfl) (by kernel_rfl) ?_; (repeat (go_big_quiet_step((first | (go_at_call 57; with_reducible exact Calls.ext_of (HQ.out.apply _ (Grow.h _))) | (go_at_call 56; with_reducible exact Calls.ext_of (HQ.out.speak _ (Grow.h _))) | (go_at_call 55; with_reducible exact Calls.ext_of (HQ.out.say _ (Grow.h _))) | (go_at_call 58; with_reducible exact Calls.ext_of (HKD _).out))))); with_reducible refine wpQuiet_nil ?_; intro w1 hw1; have hb1 := ext_below hw1; clear hw1)
                  have hbm1 : Below Wm.heap.size Wm w1 := (hbms.trans (HB2.out.mono hbms.size)).trans (hb1.mono (Nat.le_trans hbms.size HB2.out.size))
                  have hcx := fun b o (h : b < W'.heap.size) => (bcell hb1).1 b o h
                  have hw1 := hb1.size
                  have n4 := g4.below hbm1 (by omega); have n5 := g5.below hbm1 (by omega); have n6 := g6.below hbm1 (by omega)
                  have e4 := n4.cell 0; have e5 := n5.cell 0; have e6 := n6.cell 0
                  have f4 := n4.free 0; have f5 := n5.free 0; have f6 := n6.free 0
                  simp at e4 e5 e6
                  have N4 := Lib.hid n4; have N5 := Lib.hid n5; have N6 := Lib.hid n6
                  have HM1 := Lib.hid ((hms.below HB2.out).below hb1)
                  have lz0 : zz < W'.heap.size := by omega
                  have lz1 : zz + 1 < W'.heap.size := by omega
                  clear n4 n5 n6 r0 r1 r2 r3 r4 r5
                  rcases hkc with rfl | rfl | rfl <;> cases tt <;> cases cc <;> first
                    | (have hnb : Hid (badC s cl k = false) := (by rw [hbad.out]; rfl : badC s cl k = false)
                       gi_wp2
                       exact ⟨keepsFrom_below hb1, HB2.out.trans (hb1.mono HB2.out.size), upto_succ hno hnb.out⟩)
                    | (have hyb : Hid (badC s cl k = true) := (by rw [hbad.out]; rfl : badC s cl k = true)
                       gi_wp2
                       exact ⟨(keepsFrom_below hb1).trans ((((KeepsOthers.setCell _ _ _).from _).trans ((KeepsOthers.setCell _ _ _).from _)).trans ((KeepsOthers.setCell _ _ _).from _)), rfl, k, hk, hno, hyb.out,
                         (((HB2W.out.trans (hb1.mono HB2W.out.size)).setCell (by first | omega | (simp; omega) | (simp; done)) _).setCell (by first | omega | (simp; omega) | (simp; done)) _).setCell (by first | omega | (simp; omega) | (simp; done)) _,
                         (N4.out.set 0 _ |>.far _ (by first | (simp; done) | (simp; omega)) _).far _ (by first | (simp; done) | (simp; omega)) _, ((N5.out.far _ (by first | (simp; done) | (simp; omega)) _).set 0 _).far _ (by first | (simp; done) | (simp; omega)) _, ((N6.out.far _ (by first | (simp; done) | (simp; omega)) _).far _ (by first | (simp; done) | (simp; omega)) _).set 0 _,
                         HM1.out.keep fun D hD hw => (((KeepsOthers.setCell _ _ _).trans (KeepsOthers.setCell _ _ _)).trans (KeepsOthers.setCell _ _ _)).same D _ hw rfl⟩)
                · simp only [Bool.not_eq_true] at hin
                  rw [show hasB cl.sets (chartL s k) = false from hin] at HHAS
                  have HHAS := Lib.hid HHAS
                  gi_wp2
                  refine ⟨trivial, (CallsIn.inRound l (callsIn_wide.2 HHAS.out)).mono ?_⟩
                  rintro e w' ⟨rfl, rfl⟩
                  gi_wp2
                  exact ⟨KeepsFrom.refl _ _, HB2.out, upto_succ hno (by rw [hbad.out, hin]; rfl)⟩
              case hdone =>
                rintro D W' ⟨hb', hno⟩ hD hK
                have HN := Lib.hid (firstN_none (N := chartsC s) hno.out)
                have HE3 : Hid (keepsI s cs 0 = keepsI s (cs.drop (j + 1)) (j + 1)) := by show _ = _; rw [HE.out, HE2.out, HN.out]; rfl
                have HMP := Lib.hid (hms.push (hms.below hb') hbms.size hD hK)
                have HB' := Lib.hid (hbms.trans (hb'.mono hbms.size))
                clear hno hb' hK
                go_wp2
                refine ⟨⟨_, _, _, _, _, _, _, _, _, _, _, _, _, _, _, _, _, _, _, _, _, _, _, _, _, _, _, _, _, _, _, _, _, _, _, _, _, _, _, _, _, _, _, _, _, _, _, _, _, _, _, _, _, _, _, _, _, _, _, _, _, _, _, _, _, _, _, _, _, _, _, _, _, _, _, _, _, j + 1, _, ⟨by omega, HB'.out, HMP.out, HE3⟩, rfl⟩, ?_⟩
                simp [intOf]; omega
              case hstop =>
                rintro D c W' ⟨rfl, k, hk, hno, hyes, hbw', n4, n5, n6, hm'⟩ hD hK
                refine wp_ret ?_
                have HN := firstN_at hk hno.out hyes
                have HK0 : Hid (keepsI s cs 0 = ((j : Int), (k : Int))) := by show _ = _; rw [HE.out, HE2.out, HN]; simp
                refine marks_retN (v := .tuple #[.int .i64 (j : Int), .int .i64 (k : Int), .int .i64 0]) (B := Wm.heap.size) (fun W' => Below w.heap.size w W' ∧ Blk W' (w.heap.size + 1) #[.int .i64 (j : Int)] 3 ∧ Blk W' (w.heap.size + 1 + 1) #[.int .i64 (k : Int)] 3 ∧ Blk W' (w.heap.size + 1 + 1 + 1) #[.int .i64 0] 31) (hms.push hm' hbms.size hD hK)
                  ⟨hbw', n4, n5, n6⟩ (fun W' D h1 h2 h3 => ⟨below_putObj h1.1 (by omega) h3 _, h1.2.1.putObj h3 rfl, h1.2.2.1.putObj h3 rfl, h1.2.2.2.putObj h3 rfl⟩) ?_
                intro W' ⟨q1, q4, q5, q6⟩
                have e4 := q4.cell 0; have e5 := q5.cell 0; have e6 := q6.cell 0
                simp at e4 e5 e6
                exact ⟨by simp [results, Try.results23, go_sem, e4, e5, e6], by rw [HR.out, HK0.out], q1⟩
            · have HK0 : Hid (keepsI s cs 0 = (-1, -1)) := by show _ = _; rw [HE.out, List.drop_eq_nil_of_le (by omega)]; rfl
              obtain rfl : j = cs.length := by omega
              have d4 := (g4.below hbW (by omega)).cell 0; have d5 := (g5.below hbW (by omega)).cell 0; have d6 := (g6.below hbW (by omega)).cell 0
              have f4 := (g4.below hbW (by omega)).free 0; have f5 := (g5.below hbW (by omega)).free 0; have f6 := (g6.below hbW (by omega)).free 0
              simp at d4 d5 d6
              have HMK := Lib.hid hmk; have HBW := Lib.hid hbw; have HBm := Lib.hid hbW
              clear hmk hbw HE
              go_wp2
              have n4 := (((g4.below HBm.out (by omega)).set 0 (.int .i64 (-1))).far ⟨w.heap.size + 1 + 1, 0, none⟩ (by simp) (.int .i64 (-1))).far ⟨w.heap.size + 1 + 1 + 1, 0, none⟩ (by first | (simp; done) | (simp; omega)) (.int .i64 0)
              have n5 := (((g5.below HBm.out (by omega)).far ⟨w.heap.size + 1, 0, none⟩ (by first | (simp; done) | (simp; omega)) (.int .i64 (-1))).set 0 (.int .i64 (-1))).far ⟨w.heap.size + 1 + 1 + 1, 0, none⟩ (by first | (simp; done) | (simp; omega)) (.int .i64 0)
              have n6 := (((g6.below HBm.out (by omega)).far ⟨w.heap.size + 1, 0, none⟩ (by first | (simp; done) | (simp; omega)) (.int .i64 (-1))).far ⟨w.heap.size + 1 + 1, 0, none⟩ (by first | (simp; done) | (simp; omega)) (.int .i64 (-1))).set 0 (.int .i64 0)
              refine marks_retN (v := .tuple #[.int .i64 (-1), .int .i64 (-1), .int .i64 0]) (B := Wm.heap.size) (fun W' => Below w.heap.size w W' ∧ Blk W' (w.heap.size + 1) #[.int .i64 (-1)] 3 ∧ Blk W' (w.heap.size + 1 + 1) #[.int .i64 (-1)] 3 ∧ Blk W' (w.heap.size + 1 + 1 + 1) #[.int .i64 0] 31) ?_
                ⟨((HBW.out.setCell (by first | omega | (simp; omega) | (simp; done)) _).setCell (by first | omega | (simp; omega) | (simp; done)) _).setCell (by first | omega | (simp; omega) | (simp; done)) _, n4, n5, n6⟩ (fun W' D h1 h2 h3 => ⟨below_putObj h1.1 (by omega) h3 _, h1.2.1.putObj h3 rfl, h1.2.2.1.putObj h3 rfl, h1.2.2.2.putObj h3 rfl⟩) ?_
              · show Marks _ _ ds
                exact HMK.out.keep fun D hD hw => (((KeepsOthers.setCell W ⟨w.heap.size + 1, 0, none⟩ (.int .i64 (-1))).trans (KeepsOthers.setCell _ ⟨w.heap.size + 1 + 1, 0, none⟩ (.int .i64 (-1)))).trans (KeepsOthers.setCell _ ⟨w.heap.size + 1 + 1 + 1, 0, none⟩ (.int .i64 0))).same D _ hw rfl
              · intro W' ⟨q1, q4, q5, q6⟩
                have e4 := q4.cell 0; have e5 := q5.cell 0; have e6 := q6.cell 0
                simp at e4 e5 e6
                exact ⟨by simp [results, Try.results23, go_sem, e4, e5, e6], by rw [HR.out, HK0.out], q1⟩
    · have d20 : decide ((20 : Int) < (cs.length : Int)) = true := by simp; omega
      have HR : Hid (keepsR s cs = (0, 0, 5)) := (by simp [keepsR, vs, h20] : keepsR s cs = (0, 0, 5))
      go_enter Try.func23, Try.ntmps23
      go_wp2_with fail
      refine ((HC _ (by (repeat (first | exact Below.refl _ _ | assumption | (refine Below.alloc ?_ (by first | omega | (simp; omega) | (simp; done)) _) | (refine Below.setCell ?_ (by first | omega | (simp; omega) | (simp; done)) _) | (refine Below.drew ?_) | (refine belowN ?_ _) | (refine Below.trans ?_ (Below.mono ‹Below _ _ _› (by first | omega | (simp; omega) | (simp; done)))))))).out).mono ?_
      rintro e w1 ⟨rfl, hb1⟩
      have hc1 := fun b o (h : b < w.heap.size + 4) => (bcell hb1).1 b o (by simp; omega)
      have hf1 := fun b o (h : b < w.heap.size + 4) => (bcell hb1).2 b o (by simp; omega)
      have hk1 := fun b (h : b < w.heap.size + 4) => hb1.block b (by simp; omega)
      have hz1 : w.heap.size + 4 ≤ w1.heap.size := (by have := hb1.size; simp at this; omega)
      go_wp2
      refine bodyPost_ret (v := .tuple #[.int .i64 0, .int .i64 0, .int .i64 5]) (by simp [results, Try.results23, go_sem, hc1]) rfl ?_
      rw [HR.out]
      exact ⟨rfl, by (repeat (first | exact Below.refl _ _ | assumption | (refine Below.alloc ?_ (by first | omega | (simp; omega) | (simp; done)) _) | (refine Below.setCell ?_ (by first | omega | (simp; omega) | (simp; done)) _) | (refine Below.drew ?_) | (refine belowN ?_ _) | (refine Below.trans ?_ (Below.mono ‹Below _ _ _› (by first | omega | (simp; omega) | (simp; done))))))⟩
  · simp only [Bool.not_eq_true] at vs
    have HC := fun W (hW : Below w.heap.size w W) => Lib.hid (chk_any vs W ((hr.below hW).more hW.size))
    have HR : Hid (keepsR s cs = (0, 0, 2)) := (by simp [keepsR, vs] : keepsR s cs = (0, 0, 2))
    go_enter Try.func23, Try.ntmps23
    go_wp2_with fail
    refine ((HC _ (by (repeat (first | exact Below.refl _ _ | assumption | (refine Below.alloc ?_ (by first | omega | (simp; omega) | (simp; done)) _) | (refine Below.setCell ?_ (by first | omega | (simp; omega) | (simp; done)) _) | (refine Below.drew ?_) | (refine belowN ?_ _) | (refine Below.trans ?_ (Below.mono ‹Below _ _ _› (by first | omega | (simp; omega) | (simp; done)))))))).out).mono ?_
    rintro e w1 ⟨rfl, hb1⟩
    have hc1 := fun b o (h : b < w.heap.size + 4) => (bcell hb1).1 b o (by simp; omega)
    have hf1 := fun b o (h : b < w.heap.size + 4) => (bcell hb1).2 b o (by simp; omega)
    have hk1 := fun b (h : b < w.heap.size + 4) => hb1.block b (by simp; omega)
    have hz1 : w.heap.size + 4 ≤ w1.heap.size := (by have := hb1.size; simp at this; omega)
    go_wp2
    refine bodyPost_ret (v := .tuple #[.int .i64 0, .int .i64 0, .int .i64 2]) (by simp [results, Try.results23, go_sem, hc1]) rfl ?_
    rw [HR.out]
    exact ⟨rfl, by (repeat (first | exact Below.refl _ _ | assumption | (refine Below.alloc ?_ (by first | omega | (simp; omega) | (simp; done)) _) | (refine Below.setCell ?_ (by first | omega | (simp; omega) | (simp; done)) _) | (refine Below.drew ?_) | (refine belowN ?_ _) | (refine Below.trans ?_ (Below.mono ‹Below _ _ _› (by first | omega | (simp; omega) | (simp; done))))))⟩
end Go.Proofs.Ytidlmbajpbbilaa

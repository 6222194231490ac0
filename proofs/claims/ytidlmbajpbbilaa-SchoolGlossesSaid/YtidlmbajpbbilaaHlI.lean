/- Helpers of the laws: cases up to their addresses; copies of cases. -/
import Derived.Test.YtidlmbajpbbilaaHlG
import Derived.Deep.RegionHeldLaw
import Derived.Deep.AppendLies
namespace Go.Proofs.Ytidlmbajpbbilaa
open Go.RowKit

/-- a case without addresses -/
def Cas.pl (c : Cas) : Cas := { c with v := .slice none 0 0 }
def Cas.nil0 (c : Cas) : Prop := ∀ n cap, c.v = .slice none n cap → cap = 0
theorem casB_pl (s : Sch) (c : Cas) : casB s.pl c.pl = casB s c := rfl
theorem firstFrom_map {α β : Type} (p : β → Bool) (f : α → β) : ∀ (l : List α) (n : Nat), firstFrom p (l.map f) n = firstFrom (fun x => p (f x)) l n
  | [], _ => rfl
  | x :: l, n => by simp only [List.map_cons, firstFrom, firstFrom_map p f l]
theorem glAt_pl (s : Sch) (kind : Int) (cs : List Cas) (k : Nat) : glAt s.pl kind (cs.map Cas.pl) k = glAt s kind cs k := by
  have e1 : ∀ l : List Cas, firstIdx (fun c : Cas => holdsB (chartL s k) c.when_) (l.map Cas.pl) = firstIdx (fun c : Cas => holdsB (chartL s k) c.when_) l := fun l => firstFrom_map _ _ _ _
  have e2 : chartL s.pl k = chartL s k := rfl
  simp only [glAt, e2, e1, ← List.map_drop, ansN_pl, List.getElem?_map, Option.map_map]
  rfl
theorem glossN_pl (s : Sch) (kind : Int) (cs : List Cas) : glossN s.pl kind (cs.map Cas.pl) = glossN s kind cs := by
  simp only [glossN, glAt_pl]; rfl
theorem glossR_pl (s : Sch) (kind : Int) (cs : List Cas) : glossR s.pl kind (cs.map Cas.pl) = glossR s kind cs := by
  simp only [glossR, schB_pl, List.length_map, glossN_pl, glAt_pl, List.all_map]
  rfl
theorem gloss_cong {s s' : Sch} {cs cs' : List Cas} (h : s'.pl = s.pl) (h' : cs'.map Cas.pl = cs.map Cas.pl) (kind : Int) : glossR s' kind cs' = glossR s kind cs := by rw [← glossR_pl s', h, h', glossR_pl]
/-- cases with lists of their own are returned -/
def RetOwnK (cs : List Cas) (w : World) (e : Ending) (w' : World) : Prop := ∃ (A : Option Addr) (c : Nat) (cs' : List Cas), e = .returned (.slice A cs'.length c) ∧ cs'.length ≤ c ∧ c ≤ maxLen ∧ cs'.map Cas.pl = cs.map Cas.pl ∧ CasRead w' w'.heap.size A cs' ∧ Below w.heap.size w w'
theorem infoCase : (Try.prog.info? 54).map (fun i => (i.zero, i.size, i.bytes)) = some (some (.agg #[.slice none 0 0, .int .i64 0]), 2, 32) := by kernel_rfl
theorem uCases : Try.prog.underlying 51 = some (.slice 54) := by kernel_rfl
/-- a case whose list is a row -/
structure RowK (W : World) (q : Cas) : Prop where
  s_ : ∃ a cap, q.v = .slice a q.when_.length cap ∧ W.ownsRow 0 103 4 q.v q.when_.length (flat Tst.cells q.when_)
  l1 : q.when_.length ≤ 1000000
  ok : ∀ t ∈ q.when_, t.ok
theorem RowK.grown {W W' : World} {r : Cas} (h : RowK W r) {row : Option Nat} (hg : W.grownBy W' row) (hr : ∀ (v : Value), (∃ s n xs, W.ownsRow 0 103 s v n xs) → v.ownBlock = none ∨ v.ownBlock ≠ row) : RowK W' r := by
  obtain ⟨a, cap, h1, h2⟩ := h.s_
  exact ⟨⟨a, cap, h1, h2.kept hg (hr _ ⟨_, _, _, h2⟩)⟩, h.l1, h.ok⟩
theorem RowK.below {W W' : World} {r : Cas} (h : RowK W r) (hb : Below W.heap.size W W') : RowK W' r :=
  h.grown (grown_of_below hb) fun v _ => by cases hv : v.ownBlock <;> simp
theorem RowK.reads {W : World} {r : Cas} (h : RowK W r) : r.reads W W.heap.size := by
  obtain ⟨a, cap, h1, h2⟩ := h.s_
  obtain ⟨A, c, hv, hs⟩ := Sl.of_own h2
  exact ⟨⟨A, c, hv, hs⟩, h.l1, h.ok⟩

set_option maxRecDepth 100000 in
set_option maxHeartbeats 4000000 in
theorem cases_any (cs : List Cas) (A : Option Addr) (c : Nat) (w : World) (hr : CasRead w w.heap.size A cs) (h0 : ∀ q ∈ cs, q.nil0) (hl : cs.length ≤ 1000) : Calls Try.prog 28 #[.slice A cs.length c] w (RetOwnK cs w) := by
  obtain ⟨i1, hi1, iy0, iy1, iy2⟩ := info_parts infoCase
  have HRR := Lib.hid hr; have HN0 := Lib.hid h0
  clear hr h0
  go_enter Try.func28, Try.ntmps28
  go_wp2
  refine wp_world (fun W => Below w.heap.size w W ∧ w.heap.size < W.heap.size ∧ W.ownsRow w.heap.size 54 2 (.slice (some ⟨w.heap.size, 0, none⟩) 0 0) 0 []) ?_ ?_
  · refine ⟨by (repeat (first | exact Below.refl _ _ | assumption | (refine Below.alloc ?_ (by first | omega | (simp; omega) | (simp; done)) _) | (refine Below.setCell ?_ (by first | omega | (simp; omega) | (simp; done)) _) | (refine Below.drew ?_) | (refine belowN ?_ _) | (refine Below.trans ?_ (Below.mono ‹Below _ _ _› (by first | omega | (simp; omega) | (simp; done)))))), by simp, ?_⟩
    have := World.ownsRow_made (e := 54) (size := 2) w #[] 0 (base := w.heap.size) (by simp) (by simp) (by simp)
    simpa using this
  rintro w0 ⟨hbw, hz0, hown0⟩
  have HO0 := Lib.hid hown0
  go_loopw [3, 4] (fun v i wr => ∃ (j : Nat) (l : List Cas), j ≤ cs.length ∧ i = .int .i64 j ∧ Hid (l.length = j) ∧ Hid (wr.ownsRow w.heap.size 54 2 v l.length (flat Cas.cells l)) ∧ Hid (∀ r ∈ l, RowK wr r) ∧ Hid (l.map Cas.pl = (cs.take j).map Cas.pl) ∧
    Hid (Below w.heap.size w wr) ∧ w.heap.size < wr.heap.size) (fun _ i _ => cs.length - (intOf i).toNat)
  case atStart => exact ⟨0, [], by omega, rfl, rfl, HO0, (fun r hr => by cases hr), rfl, hbw, hz0⟩
  case round =>
    obtain ⟨j, l, hj, rfl, hlj, hown, hrows, hpl, hbr, hzr⟩ := hrel
    by_cases hlt : j < cs.length
    · have hrr := HRR.out.below hbr.out
      obtain ⟨ab, ao, rfl, hblk, hcell⟩ := hrr.1.at_ (k := j) (fun _ => rfl) hlt
      obtain ⟨⟨qa, qc, hqv, hq1⟩, hq2, hq3⟩ := (hrr.2.2 _ (List.getElem_mem hlt)).more hbr.out.size
      have hn0 := HN0.out _ (List.getElem_mem hlt)
      have HTK := Lib.hid (List.take_succ_eq_append_getElem hlt)
      obtain ⟨r, hre⟩ : ∃ t, cs[j] = t := ⟨_, rfl⟩
      rw [hre] at hcell hqv hq1 hq2 hq3 hn0 HTK
      obtain ⟨qv, ts, says⟩ := r
      simp only at hqv hq1 hq2 hq3
      subst hqv
      have c0 : wr.cell? ⟨ab, ao + j * 2, none⟩ = some (.slice qa ts.length qc) := hcell 0 _ rfl
      have c1 : wr.cell? ⟨ab, ao + j * 2 + 1, none⟩ = some (.int .i64 says) := hcell 1 _ rfl
      have hj0 : (0 : Int) ≤ (j : Int) := by omega
      have hj1 : (j : Int) < (cs.length : Int) := by omega
      have hab : ab < w.heap.size := hblk
      have habr : ab < wr.heap.size := by omega
      have HT := fun W (hW : Below wr.heap.size wr W) => Lib.hid (ltests_any qa qc ts W hq2 (fun e => by subst e; exact hn0 _ _ rfl) (oneCell_tests _ hq3) ((hq1.below hW).more hW.size))
      have HOK := Lib.hid hq3
      have hnb : some ab ≠ u3.ownBlock := fun e => by have := own_ge hown.out e.symm; omega
      clear hcell hre hrr hq1 hq3 hn0
      go_wp2
      go_region_held_law (fun w' => w'.cell? ⟨ab, ao + j * 2, none⟩ = some (.slice qa ts.length qc) ∧ w'.cell? ⟨ab, ao + j * 2 + 1, none⟩ = some (.int .i64 says))
        (first | exact ⟨c0, c1⟩ | go_keep | (refine ⟨?_, ?_⟩ <;> (rw [hgrow.cell_far _ (by simp; omega) hnb]; simp [*])))
        (first | (go_at_call 37; refine ((HT _ (by (repeat (first | exact Below.refl _ _ | assumption | (refine Below.alloc ?_ (by first | omega | (simp; omega) | (simp; done)) _) | (refine Below.setCell ?_ (by first | omega | (simp; omega) | (simp; done)) _) | (refine Below.drew ?_) | (refine belowN ?_ _) | (refine Below.trans ?_ (Below.mono ‹Below _ _ _› (by first | omega | (simp; omega) | (simp; done)))))))).out).mono ?_; rintro e w1 ⟨v1, rfl, hown1, hb1⟩; obtain ⟨A1, k1, hv1⟩ : ∃ A c, v1 = .slice A ts.length c := (by obtain ⟨A, c, h, _⟩ := Sl.of_own hown1; exact ⟨A, c, h⟩); subst hv1; have hyc : Below wr.heap.size wr w1 := Below.trans (by (repeat (first | exact Below.refl _ _ | assumption | (refine Below.alloc ?_ (by first | omega | (simp; omega) | (simp; done)) _) | (refine Below.setCell ?_ (by first | omega | (simp; omega) | (simp; done)) _) | (refine Below.drew ?_) | (refine belowN ?_ _) | (refine Below.trans ?_ (Below.mono ‹Below _ _ _› (by first | omega | (simp; omega) | (simp; done))))))) (hb1.mono (by simp)); have c0 := (hyc.cell (p := ⟨ab, ao + j * 2, none⟩) habr).trans c0; have c1 := (hyc.cell (p := ⟨ab, ao + j * 2 + 1, none⟩) habr).trans c1; have HOW := Lib.hid (hown.out.kept (grown_of_below hyc) (by cases hv : u3.ownBlock <;> simp)); have HO1 := Lib.hid hown1; have hzc := hyc.size; clear hown1) |
          (refine step_append_lies _ (by rfl) _ _ _ (by rfl) w.heap.size 54 i1 (.agg #[.slice none 0 0, .int .i64 0]) 2 32 uCases hi1 iy0 iy1 iy2 rfl (by omega) _ _ _ (by rfl) (HOW.out.alloc _) ⟨w1.heap.size, 0, none⟩ 1 1 [.slice A1 ts.length k1, .int .i64 says] (by rfl) (by rfl) (World.news_of_block (cs := #[.slice A1 ts.length k1, .int .i64 says]) (t := 54) (fr := (0, 0)) (heap_alloc_new w1 _)) (by simp [Value.oneCell']) (by omega) (by have := hlj.out; unfold maxLen; omega) (by have := hlj.out; omega) (by simp; omega) (w1.heap.size + 1) (by simp) ?_; intro gg cap w5 hown5 hgrow hat hgl))
      have hol := hlj.out
      have hb45 : Below w.heap.size wr w5 := ((hyc.mono (by omega)).alloc (by omega) _).grown hgrow (by simp; omega) (fun g hg => own_ge hown.out hg)
      have hbz5 : w1.heap.size < w5.heap.size := by have := hgrow.size; simp at this; omega
      go_wp2
      refine ⟨⟨j + 1, l ++ [⟨.slice A1 ts.length k1, ts, says⟩], by omega, by simp, by show _ = _; simp [hol], by show World.ownsRow _ _ _ _ _ _ _; simpa [flat, Cas.cells, hol] using hown5, ?_, ?_, hbr.out.trans (hb45.mono (by omega)), by omega⟩, by simp [intOf]; omega⟩
      · show ∀ r ∈ _, _
        have hA : ∀ q : Cas, RowK (w1.alloc (.cells #[.slice A1 ts.length k1, .int .i64 says] 54)) q → RowK w5 q := fun q hq => hq.grown hgrow fun v ⟨s', n', xs', h'⟩ =>
          ownsRow_apart h' (HOW.out.alloc (.cells #[.slice A1 ts.length k1, .int .i64 says] 54)) (by decide)
        intro q hq
        rcases List.mem_append.1 hq with hq | hq
        · exact hA q (((hrows.out q hq).below hyc).below ((Below.refl _ _).alloc (Nat.le_refl _) _))
        · obtain rfl : q = _ := by simpa using hq
          exact hA _ (RowK.below (W := w1) ⟨⟨A1, k1, rfl, own_mono HO1.out⟩, hq2, HOK.out⟩ ((Below.refl _ _).alloc (Nat.le_refl _) _))
      · show _ = _
        rw [HTK.out, List.map_append, List.map_append, hpl.out]; rfl
    · obtain rfl : j = cs.length := by omega
      have hjl := hlj.out
      obtain ⟨A', c', rfl, hs⟩ := Sl.of_own hown.out
      have HS := Lib.hid hs
      have hcap : l.length ≤ c' ∧ c' ≤ maxLen := by
        rcases hown.out.2 with ⟨hv, h0⟩ | ⟨g, cap, cur, hv, _, _, h1, h2, _⟩
        · have e1 : A' = none ∧ l.length = 0 ∧ c' = 0 := by injection hv with e1 e2 e3; exact ⟨e1, e2, e3⟩
          unfold maxLen; omega
        · have e1 : c' = cap := by injection hv with _ _ e3
          exact ⟨by omega, by omega⟩
      clear hs
      go_wp2
      go_ret
      refine ⟨A', c', l, rfl, hcap.1, hcap.2, by rw [hpl.out, List.take_length], ⟨HS.out, by omega, fun q hq => (hrows.out q hq).reads⟩, hbr.out⟩
end Go.Proofs.Ytidlmbajpbbilaa

/- Helpers of the laws: claims up to their addresses; copies of claims. -/
import Derived.Test.YtidlmbajpbbilaaHlG
namespace Go.Proofs.Ytidlmbajpbbilaa
open Go.RowKit

/-- a claim without addresses -/
def Clm.pl (c : Clm) : Clm := { c with sa := none, sc := 0 }
def Clm.nil0 (c : Clm) : Prop := c.sa = none → c.sc = 0
theorem claimsE_pl (s : Sch) : ∀ l : List Clm, claimsE s.pl (l.map Clm.pl) = claimsE s l
  | [] => rfl
  | c :: l => by simp only [List.map_cons, claimsE, claimsE_pl s l]; rfl
theorem badC_pl (s : Sch) (c : Clm) : badC s.pl c.pl = badC s c := by
  funext k
  simp only [badC, kdAt, ansL, ansOf_pl]; rfl
theorem keepsI_pl (s : Sch) : ∀ (l : List Clm) (i : Nat), keepsI s.pl (l.map Clm.pl) i = keepsI s l i
  | [], _ => rfl
  | c :: l, i => by simp only [List.map_cons, keepsI, keepsI_pl s l, badC_pl]; rfl
theorem keepsR_pl (s : Sch) (cs : List Clm) : keepsR s.pl (cs.map Clm.pl) = keepsR s cs := by
  simp only [keepsR, schB_pl, List.length_map, claimsE_pl, keepsI_pl]
theorem keeps_cong {s s' : Sch} {cs cs' : List Clm} (h : s'.pl = s.pl) (h' : cs'.map Clm.pl = cs.map Clm.pl) : keepsR s' cs' = keepsR s cs := by rw [← keepsR_pl s', h, h', keepsR_pl]
/-- claims with lists of their own are returned -/
def RetOwnC (cs : List Clm) (w : World) (e : Ending) (w' : World) : Prop := ∃ (A : Option Addr) (c : Nat) (cs' : List Clm), e = .returned (.slice A cs'.length c) ∧ cs'.map Clm.pl = cs.map Clm.pl ∧ ClmsRead w' w'.heap.size A cs' ∧ Below w.heap.size w w'
theorem infoClaim : (Try.prog.info? 43).map (fun i => (i.zero, i.size, i.bytes)) = some (some (.agg #[.int .i64 0, .slice none 0 0, .bool false, .bool false]), 4, 40) := by kernel_rfl
theorem uClaims : Try.prog.underlying 41 = some (.slice 43) := by kernel_rfl
/-- a claim whose list is a row -/
structure RowC (W : World) (q : Clm) : Prop where
  s_ : W.ownsRow 0 63 1 (.slice q.sa q.sets.length q.sc) q.sets.length (flat setCell1 q.sets)
  l1 : q.sets.length ≤ 1000000
  ok : ∀ x ∈ q.sets, IsU64 x
theorem RowC.grown {W W' : World} {r : Clm} (h : RowC W r) {row : Option Nat} (hg : W.grownBy W' row) (hr : ∀ (v : Value), (∃ s n xs, W.ownsRow 0 63 s v n xs) → v.ownBlock = none ∨ v.ownBlock ≠ row) : RowC W' r :=
  ⟨h.s_.kept hg (hr _ ⟨_, _, _, h.s_⟩), h.l1, h.ok⟩
theorem RowC.below {W W' : World} {r : Clm} (h : RowC W r) (hb : Below W.heap.size W W') : RowC W' r :=
  h.grown (grown_of_below hb) fun v _ => by cases hv : v.ownBlock <;> simp
theorem RowC.reads {W : World} {r : Clm} (h : RowC W r) : r.reads W W.heap.size := by
  obtain ⟨A, c, hv, hs⟩ := Sl.of_own h.s_
  cases hv
  exact ⟨hs, h.l1, h.ok⟩
theorem oneCell_sets (l : List Int) : ∀ u ∈ flat setCell1 l, u.oneCell' = true := fun u hu => by
  obtain ⟨t, ht, hu⟩ := List.mem_flatMap.1 hu
  simp only [List.mem_cons, List.not_mem_nil, or_false] at hu
  subst hu; simp [Value.oneCell']

set_option maxRecDepth 100000 in
set_option maxHeartbeats 4000000 in
theorem claims_any (cs : List Clm) (A : Option Addr) (c : Nat) (w : World) (hr : ClmsRead w w.heap.size A cs) (h0 : ∀ q ∈ cs, q.nil0) (hl : cs.length ≤ 1000) : Calls Try.prog 24 #[.slice A cs.length c] w (RetOwnC cs w) := by
  obtain ⟨i1, hi1, iy0, iy1, iy2⟩ := info_parts infoClaim
  have HRR := Lib.hid hr; have HN0 := Lib.hid h0
  clear hr h0
  go_enter Try.func24, Try.ntmps24
  go_wp2
  refine wp_world (fun W => Below w.heap.size w W ∧ w.heap.size < W.heap.size ∧ W.ownsRow w.heap.size 43 4 (.slice (some ⟨w.heap.size, 0, none⟩) 0 0) 0 []) ?_ ?_
  · refine ⟨by (repeat (first | exact Below.refl _ _ | assumption | (refine Below.alloc ?_ (by first | omega | (simp; omega) | (simp; done)) _) | (refine Below.setCell ?_ (by first | omega | (simp; omega) | (simp; done)) _) | (refine Below.drew ?_) | (refine belowN ?_ _) | (refine Below.trans ?_ (Below.mono ‹Below _ _ _› (by first | omega | (simp; omega) | (simp; done)))))), by simp, ?_⟩
    have := World.ownsRow_made (e := 43) (size := 4) w #[] 0 (base := w.heap.size) (by simp) (by simp) (by simp)
    simpa using this
  rintro w0 ⟨hbw, hz0, hown0⟩
  have HO0 := Lib.hid hown0
  go_loopw [3, 4] (fun v i wr => ∃ (j : Nat) (l : List Clm), j ≤ cs.length ∧ i = .int .i64 j ∧ Hid (l.length = j) ∧ Hid (wr.ownsRow w.heap.size 43 4 v l.length (flat Clm.cells l)) ∧ Hid (∀ r ∈ l, RowC wr r) ∧ Hid (l.map Clm.pl = (cs.take j).map Clm.pl) ∧
    Hid (Below w.heap.size w wr) ∧ w.heap.size < wr.heap.size) (fun _ i _ => cs.length - (intOf i).toNat)
  case atStart => exact ⟨0, [], by omega, rfl, rfl, HO0, (fun r hr => by cases hr), rfl, hbw, hz0⟩
  case round =>
    obtain ⟨j, l, hj, rfl, hlj, hown, hrows, hpl, hbr, hzr⟩ := hrel
    by_cases hlt : j < cs.length
    · have hrr := HRR.out.below hbr.out
      obtain ⟨ab, ao, rfl, hblk, hcell⟩ := hrr.1.at_ (k := j) (fun _ => rfl) hlt
      have hrl := (hrr.2.2 _ (List.getElem_mem hlt)).more hbr.out.size
      have hn0 := HN0.out _ (List.getElem_mem hlt)
      have HTK := Lib.hid (List.take_succ_eq_append_getElem hlt)
      obtain ⟨r, hre⟩ : ∃ t, cs[j] = t := ⟨_, rfl⟩
      rw [hre] at hcell hrl hn0 HTK
      have c0 : wr.cell? ⟨ab, ao + j * 4, none⟩ = some (.int .i64 r.kind) := hcell 0 _ rfl
      have c1 : wr.cell? ⟨ab, ao + j * 4 + 1, none⟩ = some (.slice r.sa r.sets.length r.sc) := hcell 1 _ rfl
      have c2 : wr.cell? ⟨ab, ao + j * 4 + 2, none⟩ = some (.bool r.total) := hcell 2 _ rfl
      have c3 : wr.cell? ⟨ab, ao + j * 4 + 3, none⟩ = some (.bool r.clear) := hcell 3 _ rfl
      obtain ⟨hw1, hl1, hok⟩ := hrl
      have HT := fun W (hW : Below wr.heap.size wr W) => Lib.hid (lsets_any r.sa r.sc r.sets W hl1 hn0 (oneCell_sets _) ((hw1.below hW).more hW.size))
      have HOK := Lib.hid hok
      clear hcell hre hrr hw1 hok hn0
      go_wp2_with (go_at_call 18; refine ((HT _ (by (repeat (first | exact Below.refl _ _ | assumption | (refine Below.alloc ?_ (by first | omega | (simp; omega) | (simp; done)) _) | (refine Below.setCell ?_ (by first | omega | (simp; omega) | (simp; done)) _) | (refine Below.drew ?_) | (refine belowN ?_ _) | (refine Below.trans ?_ (Below.mono ‹Below _ _ _› (by first | omega | (simp; omega) | (simp; done)))))))).out).mono ?_; rintro e w1 ⟨v1, rfl, hown1, hb1⟩; refine Hid.out ?_)
      obtain ⟨A1, k1, hv1⟩ : ∃ A c, v1 = .slice A r.sets.length c := (by obtain ⟨A, c, h, _⟩ := Sl.of_own hown1; exact ⟨A, c, h⟩)
      subst hv1
      refine gen_w (fun W => Blk W wr.heap.size #[.int .i64 r.kind, .slice r.sa r.sets.length r.sc, .bool r.total, .bool r.clear] 43 ∧ Below wr.heap.size wr W ∧ W.ownsRow (wr.heap.size + 1) 63 1 (.slice A1 r.sets.length k1) r.sets.length (flat setCell1 r.sets) ∧ wr.heap.size < W.heap.size) ?_ ?_
      · refine ⟨(Blk.new wr _ _).below hb1 (by simp), ((Below.refl _ _).alloc (Nat.le_refl _) _).trans (hb1.mono (by simp)), by simpa using hown1, by have := hb1.size; simp at this; omega⟩
      clear hb1 hown1
      rintro W1 ⟨g4, hb4, p1, hz4⟩
      have l0 := g4.cell 0
      have l1 := g4.cell 1
      have l2 := g4.cell 2
      have l3 := g4.cell 3
      have f1 := g4.free 1
      simp at l0 l1 l2 l3
      obtain ⟨W2, hW2⟩ : ∃ W, W = W1.setCell ⟨wr.heap.size, 1, none⟩ (.slice A1 r.sets.length k1) := ⟨_, rfl⟩
      have hb5 : Below wr.heap.size wr W2 := by rw [hW2]; exact hb4.setCell (Nat.le_refl _) _
      have p2 : W2.ownsRow 0 63 1 (.slice A1 r.sets.length k1) r.sets.length (flat setCell1 r.sets) := by rw [hW2]; exact own_mono (own_put p1 (by simp) _ _)
      have hz5 : W2.heap.size = W1.heap.size := by rw [hW2]; simp
      have HC5 : Hid (∀ (i : Nat) (u : Value), [Value.int .i64 r.kind, .slice A1 r.sets.length k1, .bool r.total, .bool r.clear][i]? = some u → (W2.alloc (.cells #[.int .i64 r.kind, .slice A1 r.sets.length k1, .bool r.total, .bool r.clear] 43)).cell? ((⟨W1.heap.size, 0, none⟩ : Addr).add i) = some u) := (fun i u hu => by
        rw [← hz5, Go.WideShapes.add_plain, Nat.zero_add, (Blk.new W2 _ _).cell i, ← hu]; simp)
      have how := hown.out.kept (grown_of_below hb5) (by cases hv : u3.ownBlock <;> simp)
      have HOW := Lib.hid how
      have HW2 := Lib.hid hW2
      clear hW2 how p1
      refine Lib.hid ?_
      go_wp2_with (at_builtin; rw [← HW2.out]; refine wpList_append_own _ rfl _ _ 41 rfl w.heap.size 43 i1 (.agg #[.int .i64 0, .slice none 0 0, .bool false, .bool false]) 4 40 uClaims hi1 iy0 iy1 iy2 rfl (by decide) _ _ _ rfl (HOW.out.alloc _) ⟨W1.heap.size, 0, none⟩ 1 1 [.int .i64 r.kind, .slice A1 r.sets.length k1, .bool r.total, .bool r.clear] rfl rfl HC5.out (by simp [Value.oneCell']) (by have := hlj.out; unfold maxLen; omega) (by have := hlj.out; omega) (by have := hlj.out; simp; omega) ?_; intro v' w5 hown5 hgrow _)
      have hol := hlj.out
      have hb45 : Below w.heap.size wr w5 := ((hb5.mono (by omega)).alloc (by omega) _).grown hgrow (by simp; omega) (fun g hg => own_ge hown.out hg)
      have hbz5 : W2.heap.size < w5.heap.size := by have := hgrow.size; simp at this; omega
      go_wp2
      refine ⟨⟨j + 1, l ++ [⟨r.kind, A1, k1, r.sets, r.total, r.clear⟩], by omega, by simp, by show _ = _; simp [hol], by show World.ownsRow _ _ _ _ _ _ _; simpa [flat, Clm.cells] using hown5, ?_, ?_, hbr.out.trans (hb45.mono (by omega)), by omega⟩, by simp [intOf]; omega⟩
      · show ∀ r ∈ _, _
        have hA : ∀ q : Clm, RowC (W2.alloc (.cells #[.int .i64 r.kind, .slice A1 r.sets.length k1, .bool r.total, .bool r.clear] 43)) q → RowC w5 q := fun q hq => hq.grown hgrow fun v ⟨s', n', xs', h'⟩ =>
          ownsRow_apart h' (HOW.out.alloc (.cells #[.int .i64 r.kind, .slice A1 r.sets.length k1, .bool r.total, .bool r.clear] 43)) (by decide)
        intro q hq
        rcases List.mem_append.1 hq with hq | hq
        · exact hA q (((hrows.out q hq).below hb5).below ((Below.refl _ _).alloc (Nat.le_refl _) _))
        · obtain rfl : q = _ := by simpa using hq
          exact hA _ (RowC.below (W := W2) ⟨p2, hl1, HOK.out⟩ ((Below.refl _ _).alloc (Nat.le_refl _) _))
      · show _ = _
        rw [HTK.out, List.map_append, List.map_append, hpl.out]; rfl
    · obtain rfl : j = cs.length := by omega
      have hjl := hlj.out
      obtain ⟨A', c', rfl, hs⟩ := Sl.of_own hown.out
      have HS := Lib.hid hs
      clear hs
      go_wp2
      go_ret
      refine ⟨A', c', l, rfl, by rw [hpl.out, List.take_length], ⟨HS.out, by omega, fun q hq => (hrows.out q hq).reads⟩, hbr.out⟩
end Go.Proofs.Ytidlmbajpbbilaa

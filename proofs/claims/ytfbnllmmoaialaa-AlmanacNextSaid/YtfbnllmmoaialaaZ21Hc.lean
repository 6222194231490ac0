/- almanac: the laws' copies of lists. -/
import Derived.Test.YtfbnllmmoaialaaAm
import Derived.Laws.AppendOwnNone
import Derived.OwnWalk
import Derived.Maps.AppendAt
import Derived.Test.YtfbnllmmoaialaaBe
import Derived.Deep.RegionHeldLaw
import Derived.Deep.AppendLies
namespace Go.Proofs.Ytfbnllmmoaialaa
open Go.RowKit

theorem infoCyc : (Try.prog.info? 55).map (fun i => (i.zero, i.size, i.bytes)) = some (some (.agg #[.int .i64 0, .int .i64 0]), 2, 16) := by kernel_rfl
theorem uCycles : Try.prog.underlying 22 = some (.slice 55) := by kernel_rfl
set_option maxRecDepth 100000 in
theorem ints0_any (A : Option Addr) (c : Nat) (l : List Int) (w : World) (hl : l.length ≤ 1000000) (hn : A = none → c = 0) (hok : ∀ u ∈ flat intCell l, u.oneCell' = true) (hr : Sl intCell 1 w w.heap.size A l) :
    Calls Try.prog 31 #[.slice A l.length c] w (RetOwn 3 intCell 1 l w) := by
  obtain ⟨i0, hi, iz0, iz1, iz2⟩ := info_parts infoInt
  have hfl : (flat intCell l).length = l.length * 1 := hr.1
  cases A with
  | none =>
    obtain rfl : c = 0 := hn rfl
    have h0 : l.length = 0 := by
      rcases Nat.eq_zero_or_pos l.length with h | h
      · exact h
      · obtain ⟨b, o, e, _⟩ := hr.2 h; cases e
    have hl0 : l = [] := List.eq_nil_of_length_eq_zero h0
    subst hl0
    have hown := World.ownsRow_made (e := 3) (size := 1) w #[] 0 (base := w.heap.size) (Nat.le_refl _) (by simp) (by simp)
    have HO := Lib.hid hown
    clear hown hr hfl
    go_enter Try.func31, Try.ntmps31
    go_wp2_with (at_builtin; refine wpList_append_own_none rfl _ _ 38 rfl w.heap.size 3 i0 1 uInts hi _ _ _ rfl HO.out rfl ?_)
    go_ret
    exact ⟨_, rfl, by simpa [flat] using HO.out, by (repeat (first | exact Below.refl _ _ | assumption | (refine Below.alloc ?_ (by first | omega | (simp; omega) | (simp; done)) _) | (refine Below.setCell ?_ (by first | omega | (simp; omega) | (simp; done)) _) | (refine Below.drew ?_) | (refine belowN ?_ _) | (refine Below.trans ?_ (Below.mono ‹Below _ _ _› (by first | omega | (simp; omega) | (simp; done))))))⟩
  | some ad =>
    have hcell : ∀ (j : Nat) (u : Value), (flat intCell l)[j]? = some u → (w.alloc (.cells #[] 3)).cell? (ad.add j) = some u := fun j u hu => by
      have hpos : 0 < l.length := by
        rcases Nat.eq_zero_or_pos l.length with h | h
        · have : l = [] := List.eq_nil_of_length_eq_zero h
          subst this; simp [flat] at hu
        · exact h
      obtain ⟨b, o, e, hb, hc⟩ := hr.2 hpos
      cases e
      have h1 := hc j u hu
      rw [Go.WideShapes.add_plain, ((Below.refl w.heap.size w).alloc (Nat.le_refl _) _).cell (p := ⟨b, o + j, none⟩) hb]
      exact h1
    have hown := World.ownsRow_made (e := 3) (size := 1) w #[] 0 (base := w.heap.size) (Nat.le_refl _) (by simp) (by simp)
    have HO := Lib.hid hown; have HC := Lib.hid hcell; have HFL := Lib.hid hfl; have HOK := Lib.hid hok
    clear hown hcell hfl hr hok hn
    go_enter Try.func31, Try.ntmps31
    go_wp2_with (at_builtin; refine wpList_append_own _ rfl _ _ 38 rfl w.heap.size 3 i0 (.int .i64 0) 1 8 uInts hi iz0 iz1 iz2 rfl (by decide) _ _ _ rfl HO.out ad l.length c (flat intCell l) rfl HFL.out HC.out HOK.out (by unfold maxLen; omega) (by omega) (by simp) ?_; intro v' w1 hown1 hgrow _)
    have hb1 : Below w.heap.size w w1 := ((Below.refl _ _).alloc (Nat.le_refl _) _).grown hgrow (by simp) (fun g hg => by cases hg; exact Nat.le_refl _)
    have HO1 := Lib.hid hown1
    clear hown1 hgrow
    go_wp2
    go_ret
    exact ⟨_, rfl, by simpa using HO1.out, hb1⟩
set_option maxRecDepth 100000 in
theorem cycles0_any (A : Option Addr) (c : Nat) (l : List Cyc) (w : World) (hl : l.length ≤ 1000000) (hn : A = none → c = 0) (hok : ∀ u ∈ flat Cyc.cells l, u.oneCell' = true) (hr : Sl Cyc.cells 2 w w.heap.size A l) :
    Calls Try.prog 30 #[.slice A l.length c] w (RetOwn 55 Cyc.cells 2 l w) := by
  obtain ⟨i0, hi, iz0, iz1, iz2⟩ := info_parts infoCyc
  have hfl : (flat Cyc.cells l).length = l.length * 2 := hr.1
  cases A with
  | none =>
    obtain rfl : c = 0 := hn rfl
    have h0 : l.length = 0 := by
      rcases Nat.eq_zero_or_pos l.length with h | h
      · exact h
      · obtain ⟨b, o, e, _⟩ := hr.2 h; cases e
    have hl0 : l = [] := List.eq_nil_of_length_eq_zero h0
    subst hl0
    have hown := World.ownsRow_made (e := 55) (size := 2) w #[] 0 (base := w.heap.size) (Nat.le_refl _) (by simp) (by simp)
    have HO := Lib.hid hown
    clear hown hr hfl
    go_enter Try.func30, Try.ntmps30
    go_wp2_with (at_builtin; refine wpList_append_own_none rfl _ _ 22 rfl w.heap.size 55 i0 2 uCycles hi _ _ _ rfl HO.out rfl ?_)
    go_ret
    exact ⟨_, rfl, by simpa [flat] using HO.out, by (repeat (first | exact Below.refl _ _ | assumption | (refine Below.alloc ?_ (by first | omega | (simp; omega) | (simp; done)) _) | (refine Below.setCell ?_ (by first | omega | (simp; omega) | (simp; done)) _) | (refine Below.drew ?_) | (refine belowN ?_ _) | (refine Below.trans ?_ (Below.mono ‹Below _ _ _› (by first | omega | (simp; omega) | (simp; done))))))⟩
  | some ad =>
    have hcell : ∀ (j : Nat) (u : Value), (flat Cyc.cells l)[j]? = some u → (w.alloc (.cells #[] 55)).cell? (ad.add j) = some u := fun j u hu => by
      have hpos : 0 < l.length := by
        rcases Nat.eq_zero_or_pos l.length with h | h
        · have : l = [] := List.eq_nil_of_length_eq_zero h
          subst this; simp [flat] at hu
        · exact h
      obtain ⟨b, o, e, hb, hc⟩ := hr.2 hpos
      cases e
      have h1 := hc j u hu
      rw [Go.WideShapes.add_plain, ((Below.refl w.heap.size w).alloc (Nat.le_refl _) _).cell (p := ⟨b, o + j, none⟩) hb]
      exact h1
    have hown := World.ownsRow_made (e := 55) (size := 2) w #[] 0 (base := w.heap.size) (Nat.le_refl _) (by simp) (by simp)
    have HO := Lib.hid hown; have HC := Lib.hid hcell; have HFL := Lib.hid hfl; have HOK := Lib.hid hok
    clear hown hcell hfl hr hok hn
    go_enter Try.func30, Try.ntmps30
    go_wp2_with (at_builtin; refine wpList_append_own _ rfl _ _ 22 rfl w.heap.size 55 i0 (.agg #[.int .i64 0, .int .i64 0]) 2 16 uCycles hi iz0 iz1 iz2 rfl (by decide) _ _ _ rfl HO.out ad l.length c (flat Cyc.cells l) rfl HFL.out HC.out HOK.out (by unfold maxLen; omega) (by omega) (by simp) ?_; intro v' w1 hown1 hgrow _)
    have hb1 : Below w.heap.size w w1 := ((Below.refl _ _).alloc (Nat.le_refl _) _).grown hgrow (by simp) (fun g hg => by cases hg; exact Nat.le_refl _)
    have HO1 := Lib.hid hown1
    clear hown1 hgrow
    go_wp2
    go_ret
    exact ⟨_, rfl, by simpa using HO1.out, hb1⟩
theorem sl_of_ownN {α : Type} {f : α → List Value} {size : Nat} {e : TypeId} {w : World} {base : Nat} {v : Value} {l : List α} (h : w.ownsRow base e size v l.length (flat f l)) : ∃ A c, v = .slice A l.length c ∧ Sl f size w w.heap.size A l ∧ (A = none → c = 0) := by
  rcases h.2 with ⟨rfl, h0⟩ | ⟨g, cap, cur, rfl, hb, hg, hn, hc, hs, ht⟩
  · exact ⟨none, 0, by rw [h0], ⟨h.1, fun hn => by omega⟩, fun _ => rfl⟩
  · obtain ⟨A, c, h1, h2⟩ := Sl.of_own h
    exact ⟨A, c, h1, h2, fun e => by subst e; cases h1⟩
theorem ints_any (A : Option Addr) (c : Nat) (l : List Int) (w : World) (hl : l.length ≤ 1000000) (hn : A = none → c = 0) (hr : Sl intCell 1 w w.heap.size A l) :
    Calls Try.prog 31 #[.slice A l.length c] w fun e w' => ∃ B k, e = .returned (.slice B l.length k) ∧ Sl intCell 1 w' w'.heap.size B l ∧ (B = none → k = 0) ∧ Below w.heap.size w w' :=
  (ints0_any A c l w hl hn (by rw [flat_int]; intro u hu; obtain ⟨x, _, rfl⟩ := List.mem_map.1 hu; rfl) hr).mono fun _ _ ⟨v, h1, h2, h3⟩ => by
    obtain ⟨A', c', rfl, h4, h5⟩ := sl_of_ownN h2
    exact ⟨A', c', h1, h4, h5, h3⟩
theorem cycles_any (A : Option Addr) (c : Nat) (l : List Cyc) (w : World) (hl : l.length ≤ 1000000) (hn : A = none → c = 0) (hr : Sl Cyc.cells 2 w w.heap.size A l) :
    Calls Try.prog 30 #[.slice A l.length c] w fun e w' => ∃ B k, e = .returned (.slice B l.length k) ∧ Sl Cyc.cells 2 w' w'.heap.size B l ∧ (B = none → k = 0) ∧ Below w.heap.size w w' :=
  (cycles0_any A c l w hl hn (by intro u hu; obtain ⟨x, _, hx⟩ := List.mem_flatMap.1 hu; simp [Cyc.cells] at hx; rcases hx with rfl | rfl <;> rfl) hr).mono fun _ _ ⟨v, h1, h2, h3⟩ => by
    obtain ⟨A', c', rfl, h4, h5⟩ := sl_of_ownN h2
    exact ⟨A', c', h1, h4, h5, h3⟩
end Go.Proofs.Ytfbnllmmoaialaa
namespace Go.Proofs.Ytfbnllmmoaialaa
open Go.RowKit

/-- at a step of a region that draws its order: an append to a row that is owned; nothing may be appended -/
theorem step_append_at {P : Program} {w : World} {ops : Array Oper} {o : Oper} {a : Act} {K : Act → World → Prop} {Q : Exit → Act → World → Prop} {E : Prop} (hgd : o.guard = none) (s x : Operand) (t : TypeId)
    (ho : o.op = .call { callee := .builtin .append, args := #[s, x], argTypes := #[t, t] })
    (base : Nat) (e : TypeId) (i : TypeInfo) (z : Value) (size bytes : Nat) (ht : P.underlying t = some (.slice e)) (hi : P.info? e = some i) (hz : i.zero = some z)
    (hsize : i.size = size) (hby : i.bytes = bytes) (hzs : z.cells.size = size) (hsz : 0 < size)
    (v : Value) (n : Nat) (xs : List Value) (hs : a.eval s = v) (hown : w.ownsRow base e size v n xs)
    (ad : Addr) (m c : Nat) (news : List Value) (hx : a.eval x = .slice (some ad) m c) (hl : news.length = m * size) (hnews : ∀ j u, news[j]? = some u → w.cell? (ad.add j) = some u) (h1 : ∀ u ∈ news, u.oneCell' = true)
    (h63 : n + m ≤ maxLen) (hbytes : (n + m) * bytes ≤ 140737488355328) (hbase : base ≤ w.heap.size)
    (h : ∀ v' w', w'.ownsRow base e size v' (n + m) (xs ++ news) → w.grownBy w' v.ownBlock → K (a.put o.dst v') w') :
    if Region.wanted o (yielded ops a.tmps) = true then Oper.wp P o a w K Q else E := by
  have hw : Region.wanted o (yielded ops a.tmps) = true := by simp [Region.wanted, hgd]
  rw [if_pos hw]
  obtain ⟨v', w', hr, h2, h3, _, _⟩ := run_append_own_at (P := P) w base t o.type e i z size bytes ht hi hz hsize hby hzs hsz v n xs hown ad m c news hl hnews h1 h63 hbytes hbase
  unfold Oper.wp execOp
  simp only [ho, resolve, invoke, builtin, Sem.run_bind, Sem.run_pure, Result.andThen_ok, List.map_toArray, List.map_cons, List.map_nil, hs, hx, hr]
  exact h v' w' h2 h3
theorem step_append_none {P : Program} {w : World} {ops : Array Oper} {o : Oper} {a : Act} {K : Act → World → Prop} {Q : Exit → Act → World → Prop} {E : Prop} (hgd : o.guard = none) (s x : Operand) (t : TypeId)
    (ho : o.op = .call { callee := .builtin .append, args := #[s, x], argTypes := #[t, t] })
    (base : Nat) (e : TypeId) (i : TypeInfo) (size : Nat) (ht : P.underlying t = some (.slice e)) (hi : P.info? e = some i)
    (v : Value) (n : Nat) (xs : List Value) (hs : a.eval s = v) (hown : w.ownsRow base e size v n xs) (hx : a.eval x = .slice none 0 0) (m : Nat) (news : List Value) (hm : m = 0) (hn : news = [])
    (h : ∀ v' w', w'.ownsRow base e size v' (n + m) (xs ++ news) → w.grownBy w' v.ownBlock → K (a.put o.dst v') w') :
    if Region.wanted o (yielded ops a.tmps) = true then Oper.wp P o a w K Q else E := by
  have hw : Region.wanted o (yielded ops a.tmps) = true := by simp [Region.wanted, hgd]
  rw [if_pos hw]
  have hrun := run_append_owned_none (P := P) (w := w) base t o.type e i size ht hi v n xs hown
  unfold Oper.wp
  simp [execOp, ho, resolve, invoke, builtin, hs, hx, hrun, Result.andThen]
  subst hm hn
  exact h v w (by simpa using hown) ⟨rfl, rfl, rfl, Nat.le_refl _, fun k hk _ => rfl⟩
theorem infoTst : (Try.prog.info? 126).map (fun i => (i.zero, i.size, i.bytes)) = some (some (.agg #[.int .i64 0, .int .i64 0, .int .u64 0, .int .i64 0, .int .i64 0]), 5, 40) := by kernel_rfl
theorem uTestsL : Try.prog.underlying 81 = some (.slice 126) := by kernel_rfl
theorem infoRul : (Try.prog.info? 83).map (fun i => (i.zero, i.size, i.bytes)) = some (some (.agg #[.slice none 0 0, .bool false]), 2, 32) := by kernel_rfl
theorem uRulesL : Try.prog.underlying 29 = some (.slice 83) := by kernel_rfl
/-- a rule without addresses -/
def DRl.pl (r : DRl) : DRl := ⟨none, 0, r.when_, r.allow⟩
theorem ownsRow_apart {W : World} {b b' s s' n n' : Nat} {e e' : TypeId} {v v' : Value} {xs xs' : List Value} (h : W.ownsRow b e s v n xs) (h' : W.ownsRow b' e' s' v' n' xs') (hne : e ≠ e') : v.ownBlock = none ∨ v.ownBlock ≠ v'.ownBlock := by
  rcases h.2 with ⟨rfl, _⟩ | ⟨g, cap, cur, rfl, _, hg, _⟩
  · exact .inl rfl
  · rcases h'.2 with ⟨rfl, _⟩ | ⟨g', cap', cur', rfl, _, hg', _⟩
    · right; simp [Value.ownBlock]
    · right
      simp only [Value.ownBlock, ne_eq, Option.some.injEq]
      rintro rfl
      rw [hg] at hg'; cases hg'; exact hne rfl
theorem own_mono {W : World} {b e s n : Nat} {v : Value} {xs : List Value} (h : W.ownsRow b e s v n xs) : W.ownsRow 0 e s v n xs := ownsRow_low h (Nat.zero_le _)
theorem own_ge {W : World} {b e s n g : Nat} {v : Value} {xs : List Value} (h : W.ownsRow b e s v n xs) (hg : v.ownBlock = some g) : b ≤ g := (h.lt g hg).1
/-- a rule whose tests are a row -/
structure RowD (W : World) (r : DRl) : Prop where
  row : W.ownsRow 0 126 5 (.slice r.wa r.when_.length r.wc) r.when_.length (flat DTs.cells r.when_)
  len : r.when_.length ≤ 1000000
  set : ∀ t ∈ r.when_, 0 ≤ t.set ∧ t.set < 18446744073709551616
theorem RowD.grown {W W' : World} {r : DRl} (h : RowD W r) {row : Option Nat} (hg : W.grownBy W' row) (hr : ∀ v : Value, (∃ n xs, W.ownsRow 0 126 5 v n xs) → v.ownBlock = none ∨ v.ownBlock ≠ row) : RowD W' r :=
  ⟨h.row.kept hg (hr _ ⟨_, _, h.row⟩), h.len, h.set⟩
theorem RowD.below {W W' : World} {r : DRl} (h : RowD W r) (hb : Below W.heap.size W W') : RowD W' r :=
  h.grown (grown_none hb) fun v _ => by cases hv : v.ownBlock <;> simp
theorem RowD.rul {W : World} {r : DRl} (h : RowD W r) : RulAt W W.heap.size r := by
  obtain ⟨A, c, e, hs⟩ := Sl.of_own h.row
  have e2 : r.wa = A ∧ r.wc = c := by simpa using e
  exact ⟨h.len, h.set, by rw [e2.1]; exact hs⟩
/-- rules with rows of their own are returned -/
def RetRls (l : List DRl) (w : World) (e : Ending) (w' : World) : Prop := ∃ (A : Option Addr) (c : Nat) (l' : List DRl), e = .returned (.slice A l'.length c) ∧ l'.map DRl.pl = l.map DRl.pl ∧ Hid (w'.ownsRow w.heap.size 83 2 (.slice A l'.length c) l'.length (flat DRl.cells l')) ∧ (∀ r ∈ l', RowD w' r) ∧ Below w.heap.size w w'
theorem RetRls.at_ {w w' : World} {A : Option Addr} {c : Nat} {l' : List DRl} (h1 : w'.ownsRow w.heap.size 83 2 (.slice A l'.length c) l'.length (flat DRl.cells l')) (h2 : ∀ r ∈ l', RowD w' r) (hl : l'.length ≤ 1000000) : RlsAt w' w'.heap.size A l' := by
  obtain ⟨A', c', e, hs⟩ := Sl.of_own h1
  have e2 : A = A' ∧ c = c' := by simpa using e
  exact ⟨hl, by rw [e2.1]; exact hs, fun r hr => (h2 r hr).rul⟩
theorem flat_oneD (l : List DTs) : ∀ u ∈ flat DTs.cells l, u.oneCell' = true := by
  intro u hu
  obtain ⟨x, _, hx⟩ := List.mem_flatMap.1 hu
  simp [DTs.cells] at hx
  rcases hx with rfl | rfl | rfl | rfl | rfl <;> rfl
set_option maxRecDepth 100000 in
set_option maxHeartbeats 4000000 in
theorem rules_any (A : Option Addr) (c : Nat) (cs : List DRl) (w : World) (hr : RlsAt w w.heap.size A cs) (h0 : ∀ r ∈ cs, r.wa = none → r.wc = 0) (hl : cs.length ≤ 1000) : Calls Try.prog 20 #[.slice A cs.length c] w (RetRls cs w) := by
  obtain ⟨i1, hi1, iy0, iy1, iy2⟩ := info_parts infoRul
  obtain ⟨i0, hi0, iz0, iz1, iz2⟩ := info_parts infoTst
  have HRR := Lib.hid hr; have HN0 := Lib.hid h0
  clear hr h0
  go_enter Try.func20, Try.ntmps20
  go_upto_region 1 with fail
  go_wp2_with fail
  refine wp_world (fun W => Below w.heap.size w W ∧ w.heap.size < W.heap.size ∧ W.ownsRow w.heap.size 83 2 (.slice (some ⟨w.heap.size, 0, none⟩) 0 0) 0 []) ?_ ?_
  · refine ⟨by (repeat (first | exact Below.refl _ _ | assumption | (refine Below.alloc ?_ (by first | omega | (simp; omega) | (simp; done)) _) | (refine Below.setCell ?_ (by first | omega | (simp; omega) | (simp; done)) _) | (refine Below.drew ?_) | (refine belowN ?_ _) | (refine Below.trans ?_ (Below.mono ‹Below _ _ _› (by first | omega | (simp; omega) | (simp; done)))))), by simp, ?_⟩
    have := World.ownsRow_made (e := 83) (size := 2) w #[] 0 (base := w.heap.size) (by simp) (by simp) (by simp)
    simpa using this
  rintro w0 ⟨hbw, hz0, hown0⟩
  have HO0 := Lib.hid hown0
  go_loopw [3, 4] (fun v i wr => ∃ (j : Nat) (l : List DRl), j ≤ cs.length ∧ i = .int .i64 j ∧ Hid (l.length = j) ∧ Hid (wr.ownsRow w.heap.size 83 2 v l.length (flat DRl.cells l)) ∧ Hid (∀ r ∈ l, RowD wr r) ∧ Hid (l.map DRl.pl = (cs.take j).map DRl.pl) ∧
    Hid (Below w.heap.size w wr) ∧ w.heap.size < wr.heap.size) (fun _ i _ => cs.length - (intOf i).toNat)
  case atStart => exact ⟨0, [], by omega, rfl, rfl, HO0, (fun r hr => by cases hr), rfl, hbw, hz0⟩
  case round =>
    obtain ⟨j, l, hj, rfl, hlj, hown, hrows, hpl, hbr, hzr⟩ := hrel
    by_cases hlt : j < cs.length
    · have hrr := HRR.out.below hbr.out
      obtain ⟨ab, ao, rfl, hblk, hcell⟩ := hrr.sl.at_ (k := j) (fun _ => rfl) hlt
      have hq := hrr.rul _ (List.getElem_mem hlt)
      have hn0 := HN0.out _ (List.getElem_mem hlt)
      have HTK := Lib.hid (List.take_succ_eq_append_getElem hlt)
      obtain ⟨r, hre⟩ : ∃ t, cs[j] = t := ⟨_, rfl⟩
      rw [hre] at hcell hq hn0 HTK
      obtain ⟨qa, qc, ts, al⟩ := r
      have hq2 := hq.len
      have HQ3 := Lib.hid hq.set
      have hq1 := hq.sl
      simp only at hq1 hq2 hn0 HQ3
      have c0 : wr.cell? ⟨ab, ao + j * 2, none⟩ = some (.slice qa ts.length qc) := hcell 0 _ rfl
      have c1 : wr.cell? ⟨ab, ao + j * 2 + 1, none⟩ = some (.bool al) := hcell 1 _ rfl
      have hj0 : (0 : Int) ≤ (j : Int) := by omega
      have hj1 : (j : Int) < (cs.length : Int) := by omega
      have hab : ab < w.heap.size := hblk
      have habr : ab < wr.heap.size := by omega
      have HFL := Lib.hid hq1.1
      have HOC := Lib.hid (flat_oneD ts)
      have hnb : some ab ≠ u3.ownBlock := fun e => by have := own_ge hown.out e.symm; omega
      cases qa with
      | none =>
        obtain rfl : qc = 0 := hn0 rfl
        have hts : ts.length = 0 := by
          rcases Nat.eq_zero_or_pos ts.length with h | h
          · exact h
          · obtain ⟨b, o, e, _⟩ := hq1.2 h; cases e
        have HTL := Lib.hid hts
        have HFN : Hid (flat DTs.cells ts = []) := (by rw [List.eq_nil_of_length_eq_zero hts]; rfl : flat DTs.cells ts = [])
        have c0' : wr.cell? ⟨ab, ao + j * 2, none⟩ = some (.slice none 0 0) := by rw [c0, hts]
        clear hcell hre hrr hq1 hq hn0 hts c0
        have c0 := c0'
        clear c0'
        go_upto_region 5 with fail
        go_region_held_law (fun w' => w'.cell? ⟨ab, ao + j * 2, none⟩ = some (.slice none 0 0) ∧ w'.cell? ⟨ab, ao + j * 2 + 1, none⟩ = some (.bool al))
          (first | exact ⟨c0, c1⟩ | go_keep | (refine ⟨?_, ?_⟩ <;> (rw [hgrow.cell_far _ (by simp; omega) hnb]; simp [*])))
          (first |
            (refine step_append_none (by rfl) _ _ _ (by rfl) wr.heap.size 126 i0 5 uTestsL hi0 _ _ _ (by rfl) (World.ownsRow_made _ #[] 0 (by simp) (by simp) (by simp)) (by rfl) ts.length (flat DTs.cells ts) HTL.out HFN.out ?_; intro v1 w1 hown1 hgrow1; simp only [Nat.zero_add, List.nil_append] at hown1; obtain ⟨A1, k1, rfl⟩ := own_slice hown1; have hyc : Below wr.heap.size wr w1 := (by (repeat (first | exact Below.refl _ _ | assumption | (refine Below.alloc ?_ (by first | omega | (simp; omega) | (simp; done)) _) | (refine Below.setCell ?_ (by first | omega | (simp; omega) | (simp; done)) _) | (refine Below.drew ?_) | (refine belowN ?_ _) | (refine Below.trans ?_ (Below.mono ‹Below _ _ _› (by first | omega | (simp; omega) | (simp; done)))))) : Below wr.heap.size wr _).grown hgrow1 (by simp) (fun g hg => by simp [Value.ownBlock] at hg; omega); have c0 := (hyc.cell (p := ⟨ab, ao + j * 2, none⟩) habr).trans c0; have c1 := (hyc.cell (p := ⟨ab, ao + j * 2 + 1, none⟩) habr).trans c1; have HOW := Lib.hid (hown.out.kept (grown_none hyc) (by cases hv : u3.ownBlock <;> simp)); have HO1 := Lib.hid hown1; have hzc := hyc.size; clear hown1 hgrow1) |
            (refine step_append_lies _ (by rfl) _ _ _ (by rfl) w.heap.size 83 i1 (.agg #[.slice none 0 0, .bool false]) 2 32 uRulesL hi1 iy0 iy1 iy2 rfl (by omega) _ _ _ (by rfl) (HOW.out.alloc _) ⟨w1.heap.size, 0, none⟩ 1 1 [.slice A1 ts.length k1, .bool al] (by rfl) (by rfl) (World.news_of_block (cs := #[.slice A1 ts.length k1, .bool al]) (t := 83) (fr := (0, 0)) (heap_alloc_new w1 _)) (by simp [Value.oneCell']) (by omega) (by have := hlj.out; unfold maxLen; omega) (by have := hlj.out; omega) (by simp; omega) (w1.heap.size + 1) (by simp) ?_; intro gg cap w5 hown5 hgrow hat hgl))
        have hol := hlj.out
        have hb45 : Below w.heap.size wr w5 := ((hyc.mono (by omega)).alloc (by omega) _).grown hgrow (by simp; omega) (fun g hg => own_ge hown.out hg)
        have hbz5 : w1.heap.size < w5.heap.size := by have := hgrow.size; simp at this; omega
        go_wp2
        refine ⟨⟨j + 1, l ++ [⟨A1, k1, ts, al⟩], by omega, by simp, by show _ = _; simp [hol], by show World.ownsRow _ _ _ _ _ _ _; simpa [flat, DRl.cells, hol] using hown5, ?_, ?_, hbr.out.trans (hb45.mono (by omega)), by omega⟩, by simp [intOf]; omega⟩
        · show ∀ r ∈ _, _
          have hA : ∀ q : DRl, RowD (w1.alloc (.cells #[.slice A1 ts.length k1, .bool al] 83)) q → RowD w5 q := fun q hq => hq.grown hgrow fun v ⟨n', xs', h'⟩ =>
            ownsRow_apart h' (HOW.out.alloc (.cells #[.slice A1 ts.length k1, .bool al] 83)) (by decide)
          intro q hq
          rcases List.mem_append.1 hq with hq | hq
          · exact hA q (((hrows.out q hq).below hyc).below ((Below.refl _ _).alloc (Nat.le_refl _) _))
          · obtain rfl : q = _ := by simpa using hq
            exact hA _ (RowD.below (W := w1) ⟨own_mono HO1.out, hq2, HQ3.out⟩ ((Below.refl _ _).alloc (Nat.le_refl _) _))
        · show _ = _
          rw [HTK.out, List.map_append, List.map_append, hpl.out]; rfl
      | some qad =>
        have HNW : Hid (∀ (k : Nat) (u : Value), (flat DTs.cells ts)[k]? = some u → ∀ W, Below wr.heap.size wr W → W.cell? (qad.add k) = some u) := (fun k u hu W hW => by
          have hpos : 0 < ts.length := by
            rcases Nat.eq_zero_or_pos ts.length with h | h
            · have : ts = [] := List.eq_nil_of_length_eq_zero h
              subst this; simp [flat] at hu
            · exact h
          obtain ⟨b, o, e, hb, hc⟩ := hq1.2 hpos
          cases e
          rw [Go.WideShapes.add_plain, hW.cell (p := ⟨b, o + k, none⟩) (by show b < wr.heap.size; omega)]
          exact hc k u hu : ∀ (k : Nat) (u : Value), (flat DTs.cells ts)[k]? = some u → ∀ W, Below wr.heap.size wr W → W.cell? (qad.add k) = some u)
        clear hcell hre hrr hq1 hq hn0
        go_upto_region 5 with fail
        go_region_held_law (fun w' => w'.cell? ⟨ab, ao + j * 2, none⟩ = some (.slice (some qad) ts.length qc) ∧ w'.cell? ⟨ab, ao + j * 2 + 1, none⟩ = some (.bool al))
          (first | exact ⟨c0, c1⟩ | go_keep | (refine ⟨?_, ?_⟩ <;> (rw [hgrow.cell_far _ (by simp; omega) hnb]; simp [*])))
          (first |
            (refine step_append_at (by rfl) _ _ _ (by rfl) wr.heap.size 126 i0 (.agg #[.int .i64 0, .int .i64 0, .int .u64 0, .int .i64 0, .int .i64 0]) 5 40 uTestsL hi0 iz0 iz1 iz2 rfl (by omega) _ _ _ (by rfl) (World.ownsRow_made _ #[] 0 (by simp) (by simp) (by simp)) qad ts.length qc (flat DTs.cells ts) (by rfl) HFL.out (fun k u hu => HNW.out k u hu _ (by (repeat (first | exact Below.refl _ _ | assumption | (refine Below.alloc ?_ (by first | omega | (simp; omega) | (simp; done)) _) | (refine Below.setCell ?_ (by first | omega | (simp; omega) | (simp; done)) _) | (refine Below.drew ?_) | (refine belowN ?_ _) | (refine Below.trans ?_ (Below.mono ‹Below _ _ _› (by first | omega | (simp; omega) | (simp; done)))))))) HOC.out (by unfold maxLen; omega) (by omega) (by simp) ?_; intro v1 w1 hown1 hgrow1; simp only [Nat.zero_add, List.nil_append] at hown1; obtain ⟨A1, k1, rfl⟩ := own_slice hown1; have hyc : Below wr.heap.size wr w1 := (by (repeat (first | exact Below.refl _ _ | assumption | (refine Below.alloc ?_ (by first | omega | (simp; omega) | (simp; done)) _) | (refine Below.setCell ?_ (by first | omega | (simp; omega) | (simp; done)) _) | (refine Below.drew ?_) | (refine belowN ?_ _) | (refine Below.trans ?_ (Below.mono ‹Below _ _ _› (by first | omega | (simp; omega) | (simp; done)))))) : Below wr.heap.size wr _).grown hgrow1 (by simp) (fun g hg => by simp [Value.ownBlock] at hg; omega); have c0 := (hyc.cell (p := ⟨ab, ao + j * 2, none⟩) habr).trans c0; have c1 := (hyc.cell (p := ⟨ab, ao + j * 2 + 1, none⟩) habr).trans c1; have HOW := Lib.hid (hown.out.kept (grown_none hyc) (by cases hv : u3.ownBlock <;> simp)); have HO1 := Lib.hid hown1; have hzc := hyc.size; clear hown1 hgrow1) |
            (refine step_append_lies _ (by rfl) _ _ _ (by rfl) w.heap.size 83 i1 (.agg #[.slice none 0 0, .bool false]) 2 32 uRulesL hi1 iy0 iy1 iy2 rfl (by omega) _ _ _ (by rfl) (HOW.out.alloc _) ⟨w1.heap.size, 0, none⟩ 1 1 [.slice A1 ts.length k1, .bool al] (by rfl) (by rfl) (World.news_of_block (cs := #[.slice A1 ts.length k1, .bool al]) (t := 83) (fr := (0, 0)) (heap_alloc_new w1 _)) (by simp [Value.oneCell']) (by omega) (by have := hlj.out; unfold maxLen; omega) (by have := hlj.out; omega) (by simp; omega) (w1.heap.size + 1) (by simp) ?_; intro gg cap w5 hown5 hgrow hat hgl))
        have hol := hlj.out
        have hb45 : Below w.heap.size wr w5 := ((hyc.mono (by omega)).alloc (by omega) _).grown hgrow (by simp; omega) (fun g hg => own_ge hown.out hg)
        have hbz5 : w1.heap.size < w5.heap.size := by have := hgrow.size; simp at this; omega
        go_wp2
        refine ⟨⟨j + 1, l ++ [⟨A1, k1, ts, al⟩], by omega, by simp, by show _ = _; simp [hol], by show World.ownsRow _ _ _ _ _ _ _; simpa [flat, DRl.cells, hol] using hown5, ?_, ?_, hbr.out.trans (hb45.mono (by omega)), by omega⟩, by simp [intOf]; omega⟩
        · show ∀ r ∈ _, _
          have hA : ∀ q : DRl, RowD (w1.alloc (.cells #[.slice A1 ts.length k1, .bool al] 83)) q → RowD w5 q := fun q hq => hq.grown hgrow fun v ⟨n', xs', h'⟩ =>
            ownsRow_apart h' (HOW.out.alloc (.cells #[.slice A1 ts.length k1, .bool al] 83)) (by decide)
          intro q hq
          rcases List.mem_append.1 hq with hq | hq
          · exact hA q (((hrows.out q hq).below hyc).below ((Below.refl _ _).alloc (Nat.le_refl _) _))
          · obtain rfl : q = _ := by simpa using hq
            exact hA _ (RowD.below (W := w1) ⟨own_mono HO1.out, hq2, HQ3.out⟩ ((Below.refl _ _).alloc (Nat.le_refl _) _))
        · show _ = _
          rw [HTK.out, List.map_append, List.map_append, hpl.out]; rfl
    · obtain rfl : j = cs.length := by omega
      have hjl := hlj.out
      obtain ⟨A', c', hv⟩ := own_slice hown.out
      subst hv
      have HP := hpl
      go_wp2_with fail
      go_ret
      exact ⟨A', c', l, rfl, by rw [HP.out, List.take_length], hown, hrows.out, hbr.out⟩
end Go.Proofs.Ytfbnllmmoaialaa
namespace Go.Proofs.Ytfbnllmmoaialaa
open Go.RowKit

theorem blk11 {W : World} {b t : Nat} {x0 x1 x2 x3 x4 x5 x6 x7 x8 x9 x10 : Value} (h : Blk W b #[x0, x1, x2, x3, x4, x5, x6, x7, x8, x9, x10] t) (y0 y1 y2 y3 y4 y5 y6 y7 y8 y9 y10 : Value) : Blk (((((((((((W.setCell ⟨b, 0, none⟩ y0).setCell ⟨b, 1, none⟩ y1).setCell ⟨b, 2, none⟩ y2).setCell ⟨b, 3, none⟩ y3).setCell ⟨b, 4, none⟩ y4).setCell ⟨b, 5, none⟩ y5).setCell ⟨b, 6, none⟩ y6).setCell ⟨b, 7, none⟩ y7).setCell ⟨b, 8, none⟩ y8).setCell ⟨b, 9, none⟩ y9).setCell ⟨b, 10, none⟩ y10) b #[y0, y1, y2, y3, y4, y5, y6, y7, y8, y9, y10] t := by
  have := (((((((((((h.set 0 y0).set 1 y1).set 2 y2).set 3 y3).set 4 y4).set 5 y5).set 6 y6).set 7 y7).set 8 y8).set 9 y9).set 10 y10)
  simpa using this
theorem below11 {n b : Nat} {W0 W : World} {y0 y1 y2 y3 y4 y5 y6 y7 y8 y9 y10 : Value} (h : Below n W0 W) (hb : n ≤ b) : Below n W0 (((((((((((W.setCell ⟨b, 0, none⟩ y0).setCell ⟨b, 1, none⟩ y1).setCell ⟨b, 2, none⟩ y2).setCell ⟨b, 3, none⟩ y3).setCell ⟨b, 4, none⟩ y4).setCell ⟨b, 5, none⟩ y5).setCell ⟨b, 6, none⟩ y6).setCell ⟨b, 7, none⟩ y7).setCell ⟨b, 8, none⟩ y8).setCell ⟨b, 9, none⟩ y9).setCell ⟨b, 10, none⟩ y10) := (((((((((((h.setCell (p := ⟨b, 0, none⟩) hb _).setCell (p := ⟨b, 1, none⟩) hb _).setCell (p := ⟨b, 2, none⟩) hb _).setCell (p := ⟨b, 3, none⟩) hb _).setCell (p := ⟨b, 4, none⟩) hb _).setCell (p := ⟨b, 5, none⟩) hb _).setCell (p := ⟨b, 6, none⟩) hb _).setCell (p := ⟨b, 7, none⟩) hb _).setCell (p := ⟨b, 8, none⟩) hb _).setCell (p := ⟨b, 9, none⟩) hb _).setCell (p := ⟨b, 10, none⟩) hb _)
theorem flat_oneC (l : List Cyc) : ∀ u ∈ flat Cyc.cells l, u.oneCell' = true := by
  intro u hu
  obtain ⟨x, _, hx⟩ := List.mem_flatMap.1 hu
  simp [Cyc.cells] at hx
  rcases hx with rfl | rfl <;> rfl
set_option maxRecDepth 100000 in
set_option maxHeartbeats 4000000 in
theorem ownF_any (x : Alm) (w : World) (hz : x.a = none → x.c = 0) (hl : x.cycles.length ≤ 1000000) (hr : Sl Cyc.cells 2 w w.heap.size x.a x.cycles) :
    Calls Try.prog 19 #[.agg x.cells.toArray] w fun e w' => ∃ A c, e = .returned (.agg (Alm.cells ⟨A, c, x.cycles, x.sol, x.lun⟩).toArray) ∧ Sl Cyc.cells 2 w' w'.heap.size A x.cycles ∧ (A = none → c = 0) ∧ Below w.heap.size w w' ∧ Hid (w'.ownsRow w.heap.size 55 2 (.slice A x.cycles.length c) x.cycles.length (flat Cyc.cells x.cycles)) := by
  obtain ⟨A, c, l, ⟨e, b, u⟩, ⟨d, p, f, m, y, s, k⟩⟩ := x
  simp only at hz hl hr ⊢
  have HC := Lib.hid (fun W (hW : Below w.heap.size w W) => cycles0_any A c l W hl hz (flat_oneC l) ((hr.below hW).more hW.size))
  clear hr
  simp only [Alm.cells]
  go_enter Try.func19, Try.ntmps19
  go_upto_region 1 with fail
  refine gen_w (fun W => Blk W w.heap.size #[.slice A l.length c, .int .i64 e, .int .i64 b, .int .i64 u, .int .i64 d, .int .i64 p, .int .i64 f, .int .i64 m, .int .i64 y, .int .i64 s, .int .i64 k] 28 ∧ Blk W (w.heap.size + 1) #[.slice none 0 0, .int .i64 0, .int .i64 0, .int .i64 0, .int .i64 0, .int .i64 0, .int .i64 0, .int .i64 0, .int .i64 0, .int .i64 0, .int .i64 0] 28 ∧ Below w.heap.size w W) ⟨(Blk.at_ rfl).alloc _, Blk.at_ (by simp), by (repeat (first | exact Below.refl _ _ | assumption | (refine Below.alloc ?_ (by first | omega | (simp; omega) | (simp; done)) _) | (refine Below.setCell ?_ (by first | omega | (simp; omega) | (simp; done)) _) | (refine Below.drew ?_) | (refine belowN ?_ _) | (refine Below.trans ?_ (Below.mono ‹Below _ _ _› (by first | omega | (simp; omega) | (simp; done))))))⟩ ?_
  rintro V0 ⟨ga, g1, hw⟩
  have hV0 : w.heap.size + 1 < V0.heap.size := g1.lt
  have z0 := ga.cell 0; have z1 := ga.cell 1; have z2 := ga.cell 2; have z3 := ga.cell 3; have z4 := ga.cell 4; have z5 := ga.cell 5; have z6 := ga.cell 6; have z7 := ga.cell 7; have z8 := ga.cell 8; have z9 := ga.cell 9; have z10 := ga.cell 10
  simp at z0 z1 z2 z3 z4 z5 z6 z7 z8 z9 z10
  go_upto_region 2 with (go_at_call 30; (with_reducible refine (HC.out _ hw).mono ?_); rintro _ w3 ⟨vv, rfl, hown, hb1⟩; obtain ⟨A1, k1, rfl⟩ := own_slice hown; have HOW := Lib.hid hown; clear hown; have hw := bl2 hw hb1; have ga := ga.below hb1 ga.lt; have g1 := g1.below hb1 g1.lt; have fa := ga.free 0; have fz := ga.cell 0; simp at fz)
  refine gen_w (fun W => Blk W w.heap.size #[(.slice A1 l.length k1), .int .i64 e, .int .i64 b, .int .i64 u, .int .i64 d, .int .i64 p, .int .i64 f, .int .i64 m, .int .i64 y, .int .i64 s, .int .i64 k] 28 ∧ Blk W (w.heap.size + 1) #[.slice none 0 0, .int .i64 0, .int .i64 0, .int .i64 0, .int .i64 0, .int .i64 0, .int .i64 0, .int .i64 0, .int .i64 0, .int .i64 0, .int .i64 0] 28 ∧ Below w.heap.size w W ∧ Hid (W.ownsRow V0.heap.size 55 2 (.slice A1 l.length k1) l.length (flat Cyc.cells l))) ⟨by have h := ga.set 0 (.slice A1 l.length k1); simpa using h, g1.far ⟨w.heap.size, 0, none⟩ (by show w.heap.size + 1 ≠ w.heap.size; omega) _, hw.setCell (p := ⟨w.heap.size, 0, none⟩) (Nat.le_refl _) _, ownsRow_set HOW.out (p := ⟨w.heap.size, 0, none⟩) (by show w.heap.size < V0.heap.size; omega) _⟩ ?_
  clear ga g1 hw HOW fa fz hb1 z0 z1 z2 z3 z4 z5 z6 z7 z8 z9 z10
  rintro W2 ⟨ga, g1, hw, HO2⟩
  have z0 := ga.cell 0; have z1 := ga.cell 1; have z2 := ga.cell 2; have z3 := ga.cell 3; have z4 := ga.cell 4; have z5 := ga.cell 5; have z6 := ga.cell 6; have z7 := ga.cell 7; have z8 := ga.cell 8; have z9 := ga.cell 9; have z10 := ga.cell 10
  simp at z0 z1 z2 z3 z4 z5 z6 z7 z8 z9 z10
  have kk0 := g1.cell 0; have kk1 := g1.cell 1; have kk2 := g1.cell 2; have kk3 := g1.cell 3; have kk4 := g1.cell 4; have kk5 := g1.cell 5; have kk6 := g1.cell 6; have kk7 := g1.cell 7; have kk8 := g1.cell 8; have kk9 := g1.cell 9; have kk10 := g1.cell 10
  simp at kk0 kk1 kk2 kk3 kk4 kk5 kk6 kk7 kk8 kk9 kk10
  have ff0 := g1.free 0; have ff1 := g1.free 1; have ff2 := g1.free 2; have ff3 := g1.free 3; have ff4 := g1.free 4; have ff5 := g1.free 5; have ff6 := g1.free 6; have ff7 := g1.free 7; have ff8 := g1.free 8; have ff9 := g1.free 9; have ff10 := g1.free 10
  go_wp2_with fail
  have g3 := blk11 g1 ((.slice A1 l.length k1)) (.int .i64 e) (.int .i64 b) (.int .i64 u) (.int .i64 d) (.int .i64 p) (.int .i64 f) (.int .i64 m) (.int .i64 y) (.int .i64 s) (.int .i64 k)
  have hw3 := below11 (b := w.heap.size + 1) (y0 := (.slice A1 l.length k1)) (y1 := .int .i64 e) (y2 := .int .i64 b) (y3 := .int .i64 u) (y4 := .int .i64 d) (y5 := .int .i64 p) (y6 := .int .i64 f) (y7 := .int .i64 m) (y8 := .int .i64 y) (y9 := .int .i64 s) (y10 := .int .i64 k) hw (by omega)
  have hlt1 : w.heap.size + 1 < V0.heap.size := hV0
  have ho3 := (ownsRow_set (ownsRow_set (ownsRow_set (ownsRow_set (ownsRow_set (ownsRow_set (ownsRow_set (ownsRow_set (ownsRow_set (ownsRow_set (ownsRow_set HO2.out (p := ⟨w.heap.size + 1, 0, none⟩) hlt1 ((.slice A1 l.length k1))) (p := ⟨w.heap.size + 1, 1, none⟩) hlt1 (.int .i64 e)) (p := ⟨w.heap.size + 1, 2, none⟩) hlt1 (.int .i64 b)) (p := ⟨w.heap.size + 1, 3, none⟩) hlt1 (.int .i64 u)) (p := ⟨w.heap.size + 1, 4, none⟩) hlt1 (.int .i64 d)) (p := ⟨w.heap.size + 1, 5, none⟩) hlt1 (.int .i64 p)) (p := ⟨w.heap.size + 1, 6, none⟩) hlt1 (.int .i64 f)) (p := ⟨w.heap.size + 1, 7, none⟩) hlt1 (.int .i64 m)) (p := ⟨w.heap.size + 1, 8, none⟩) hlt1 (.int .i64 y)) (p := ⟨w.heap.size + 1, 9, none⟩) hlt1 (.int .i64 s)) (p := ⟨w.heap.size + 1, 10, none⟩) hlt1 (.int .i64 k))
  generalize ((((((((((W2.setCell ⟨w.heap.size + 1, 0, none⟩ ((.slice A1 l.length k1))).setCell ⟨w.heap.size + 1, 1, none⟩ (.int .i64 e)).setCell ⟨w.heap.size + 1, 2, none⟩ (.int .i64 b)).setCell ⟨w.heap.size + 1, 3, none⟩ (.int .i64 u)).setCell ⟨w.heap.size + 1, 4, none⟩ (.int .i64 d)).setCell ⟨w.heap.size + 1, 5, none⟩ (.int .i64 p)).setCell ⟨w.heap.size + 1, 6, none⟩ (.int .i64 f)).setCell ⟨w.heap.size + 1, 7, none⟩ (.int .i64 m)).setCell ⟨w.heap.size + 1, 8, none⟩ (.int .i64 y)).setCell ⟨w.heap.size + 1, 9, none⟩ (.int .i64 s)).setCell ⟨w.heap.size + 1, 10, none⟩ (.int .i64 k) = W3 at g3 hw3 ho3 ⊢
  have q0 := g3.cell 0; have q1 := g3.cell 1; have q2 := g3.cell 2; have q3 := g3.cell 3; have q4 := g3.cell 4; have q5 := g3.cell 5; have q6 := g3.cell 6; have q7 := g3.cell 7; have q8 := g3.cell 8; have q9 := g3.cell 9; have q10 := g3.cell 10
  simp at q0 q1 q2 q3 q4 q5 q6 q7 q8 q9 q10
  refine bodyPost_ret (v := .agg #[(.slice A1 l.length k1), .int .i64 e, .int .i64 b, .int .i64 u, .int .i64 d, .int .i64 p, .int .i64 f, .int .i64 m, .int .i64 y, .int .i64 s, .int .i64 k]) (by simp [results, Try.results19, go_sem, q0, q1, q2, q3, q4, q5, q6, q7, q8, q9, q10]) rfl ?_
  have ho4 := ownsRow_low ho3 (show w.heap.size ≤ V0.heap.size by omega)
  obtain ⟨A9, k9, e9, hs1, hz1⟩ := sl_of_ownN ho3
  have e9' : A1 = A9 ∧ k1 = k9 := by simpa using e9
  obtain ⟨rfl, rfl⟩ := e9'
  exact ⟨A1, k1, rfl, hs1, hz1, hw3, ho4⟩
theorem own_any (x : Alm) (w : World) (hz : x.a = none → x.c = 0) (hl : x.cycles.length ≤ 1000000) (hr : Sl Cyc.cells 2 w w.heap.size x.a x.cycles) :
    Calls Try.prog 19 #[.agg x.cells.toArray] w fun e w' => ∃ A c, e = .returned (.agg (Alm.cells ⟨A, c, x.cycles, x.sol, x.lun⟩).toArray) ∧ Sl Cyc.cells 2 w' w'.heap.size A x.cycles ∧ (A = none → c = 0) ∧ Below w.heap.size w w' :=
  (ownF_any x w hz hl hr).mono fun _ _ ⟨A, c, h1, h2, h3, h4, _⟩ => ⟨A, c, h1, h2, h3, h4⟩
/-- rules as they come in: of any length -/
structure RulW (W : World) (B : Nat) (r : DRl) : Prop where
  set : ∀ t ∈ r.when_, 0 ≤ t.set ∧ t.set < 18446744073709551616
  sl : Sl DTs.cells 5 W B r.wa r.when_
  nil : r.wa = none → r.wc = 0
structure RlsW (W : World) (B : Nat) (A : Option Addr) (l : List DRl) : Prop where
  sl : Sl DRl.cells 2 W B A l
  rul : ∀ r ∈ l, RulW W B r
theorem RulW.below {W W' : World} {B : Nat} {r : DRl} (h : RulW W B r) (hb : Below B W W') : RulW W' B r := ⟨h.set, h.sl.below hb, h.nil⟩
theorem RulW.more {W : World} {B B' : Nat} {r : DRl} (h : RulW W B r) (hB : B ≤ B') : RulW W B' r := ⟨h.set, h.sl.more hB, h.nil⟩
theorem RlsW.below {W W' : World} {B : Nat} {A : Option Addr} {l : List DRl} (h : RlsW W B A l) (hb : Below B W W') : RlsW W' B A l := ⟨h.sl.below hb, fun r hr => (h.rul r hr).below hb⟩
theorem RlsW.more {W : World} {B B' : Nat} {A : Option Addr} {l : List DRl} (h : RlsW W B A l) (hB : B ≤ B') : RlsW W B' A l := ⟨h.sl.more hB, fun r hr => (h.rul r hr).more hB⟩
theorem RlsW.at_ {W : World} {B : Nat} {A : Option Addr} {l : List DRl} (h : RlsW W B A l) (h1 : l.length ≤ 1000000) (h2 : ∀ r ∈ l, r.when_.length ≤ 1000000) : RlsAt W B A l := ⟨h1, h.sl, fun r hr => ⟨h2 r hr, (h.rul r hr).set, (h.rul r hr).sl⟩⟩
/-- more than is looked at -/
def largeB (x : Alm) (rs : List DRl) : Bool := decide (35 < rs.length) || (decide (10 < x.cycles.length) || rs.any fun r => decide (8 < r.when_.length))
set_option maxRecDepth 100000 in
set_option maxHeartbeats 4000000 in
theorem large_any (x : Alm) (A2 : Option Addr) (c2 : Nat) (rs : List DRl) (w : World) (hr : RlsW w w.heap.size A2 rs) :
    Calls Try.prog 15 #[.agg x.cells.toArray, .slice A2 rs.length c2] w fun e w' => e = .returned (.bool (largeB x rs)) ∧ Below w.heap.size w w' := by
  have HRL := Lib.hid hr
  obtain ⟨A, c, l, ⟨e, b, u⟩, ⟨d, p, f, m, y, s, k⟩⟩ := x
  have HB : Hid (largeB ⟨A, c, l, ⟨e, b, u⟩, ⟨d, p, f, m, y, s, k⟩⟩ rs = (decide (35 < rs.length) || (decide (10 < l.length) || rs.any fun r => decide (8 < r.when_.length)))) := (rfl : largeB _ rs = _)
  obtain ⟨res, hres⟩ : ∃ z, z = largeB ⟨A, c, l, ⟨e, b, u⟩, ⟨d, p, f, m, y, s, k⟩⟩ rs := ⟨_, rfl⟩
  rw [← hres] at HB ⊢
  clear hr hres
  simp only [Alm.cells]
  by_cases h1 : 35 < rs.length
  · have t1 : decide ((35 : Int) < (rs.length : Int)) = true := by simp; omega
    have HT : Hid (res = true) := (by rw [HB.out, decide_eq_true h1]; rfl : res = true)
    go_enter Try.func15, Try.ntmps15
    go_wp2
    go_ret
    exact ⟨ret_bool HT.out.symm, by (repeat (first | exact Below.refl _ _ | assumption | (refine Below.alloc ?_ (by first | omega | (simp; omega) | (simp; done)) _) | (refine Below.setCell ?_ (by first | omega | (simp; omega) | (simp; done)) _) | (refine Below.drew ?_) | (refine belowN ?_ _) | (refine Below.trans ?_ (Below.mono ‹Below _ _ _› (by first | omega | (simp; omega) | (simp; done))))))⟩
  · have t1 : decide ((35 : Int) < (rs.length : Int)) = false := by simp; omega
    by_cases h2 : 10 < l.length
    · have t2 : decide ((10 : Int) < (l.length : Int)) = true := by simp; omega
      have HT : Hid (res = true) := (by rw [HB.out, decide_eq_true h2]; simp : res = true)
      go_enter Try.func15, Try.ntmps15
      go_wp2
      go_ret
      exact ⟨ret_bool HT.out.symm, by (repeat (first | exact Below.refl _ _ | assumption | (refine Below.alloc ?_ (by first | omega | (simp; omega) | (simp; done)) _) | (refine Below.setCell ?_ (by first | omega | (simp; omega) | (simp; done)) _) | (refine Below.drew ?_) | (refine belowN ?_ _) | (refine Below.trans ?_ (Below.mono ‹Below _ _ _› (by first | omega | (simp; omega) | (simp; done))))))⟩
    · have t2 : decide ((10 : Int) < (l.length : Int)) = false := by simp; omega
      have HB2 : Hid (res = rs.any fun r => decide (8 < r.when_.length)) := (by rw [HB.out, decide_eq_false h1, decide_eq_false h2]; rfl : res = _)
      have hlen : rs.length ≤ 35 := by omega
      clear h1 h2 HB
      go_enter Try.func15, Try.ntmps15
      go_upto_region 4 with fail
      refine gen_w (fun W => Below w.heap.size w W) (by (repeat (first | exact Below.refl _ _ | assumption | (refine Below.alloc ?_ (by first | omega | (simp; omega) | (simp; done)) _) | (refine Below.setCell ?_ (by first | omega | (simp; omega) | (simp; done)) _) | (refine Below.drew ?_) | (refine belowN ?_ _) | (refine Below.trans ?_ (Below.mono ‹Below _ _ _› (by first | omega | (simp; omega) | (simp; done))))))) ?_
      rintro V0 hw
      go_loopw [5] (fun i wr => ∃ q : Nat, q ≤ rs.length ∧ i = .int .i64 q ∧ Hid (res = (rs.drop q).any fun r => decide (8 < r.when_.length)) ∧ Hid (Below w.heap.size w wr)) (fun i _ => rs.length - (intOf i).toNat)
      case atStart => exact ⟨0, by omega, rfl, HB2, hw⟩
      case round =>
        clear hw
        obtain ⟨q, hq, rfl, HR, hbw⟩ := hrel
        have hw := hbw.out
        clear hbw
        by_cases hlt : q < rs.length
        · obtain ⟨rb, ro, rfl, hrblk, hrcell⟩ := (HRL.out.sl.below hw).at_ (k := q) (fun _ => rfl) hlt
          have HZ : Hid (rs.drop q = rs[q] :: rs.drop (q + 1)) := (List.drop_eq_getElem_cons hlt : _ = _)
          obtain ⟨r, hre⟩ : ∃ r, r = rs[q] := ⟨_, rfl⟩
          rw [← hre] at hrcell HZ
          obtain ⟨ra, rc, ts, al⟩ := r
          have r0 : wr.cell? ⟨rb, ro + q * 2, none⟩ = some (.slice ra ts.length rc) := hrcell 0 _ rfl
          have k0 : (0 : Int) ≤ (q : Int) := by omega
          have k1 : (q : Int) < (rs.length : Int) := by omega
          have HR1 : Hid (res = (decide (8 < ts.length) || (rs.drop (q + 1)).any fun r => decide (8 < r.when_.length))) := (by rw [HR.out, HZ.out]; rfl : res = _)
          clear hrcell hre
          by_cases h8 : 8 < ts.length
          · have t8 : decide ((8 : Int) < (ts.length : Int)) = true := by simp; omega
            have HT : Hid (res = true) := (by rw [HR1.out, decide_eq_true h8]; rfl : res = true)
            go_wp2_with fail
            go_ret
            exact ⟨ret_bool HT.out.symm, hw⟩
          · have t8 : decide ((8 : Int) < (ts.length : Int)) = false := by simp; omega
            have HR2 : Hid (res = (rs.drop (q + 1)).any fun r => decide (8 < r.when_.length)) := (by rw [HR1.out, decide_eq_false h8]; rfl : res = _)
            go_wp2_with fail
            go_roundw
            case rel => exact ⟨q + 1, by omega, by go_num, HR2, hw⟩
            case measure => simp [intOf]; omega
        · obtain rfl : q = rs.length := by omega
          have HT : Hid (res = false) := (by rw [HR.out, List.drop_eq_nil_of_le (Nat.le_refl _)]; rfl : res = false)
          go_wp2_with fail
          go_ret
          exact ⟨ret_bool HT.out.symm, hw⟩
theorem not_large {x : Alm} {rs : List DRl} (h : largeB x rs = false) : rs.length ≤ 35 ∧ x.cycles.length ≤ 10 ∧ ∀ r ∈ rs, r.when_.length ≤ 8 := by
  unfold largeB at h
  simp only [Bool.or_eq_false_iff, decide_eq_false_iff_not, List.any_eq_false] at h
  exact ⟨by omega, by omega, fun r hr => by have := h.2.2 r hr; simp at this; omega⟩
end Go.Proofs.Ytfbnllmmoaialaa

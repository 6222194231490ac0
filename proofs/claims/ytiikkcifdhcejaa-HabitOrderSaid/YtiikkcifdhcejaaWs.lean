/- habit: the laws' copies. -/
import Derived.Test.YtiikkcifdhcejaaWr
import Derived.Laws.AppendOwnNone
import Derived.Maps.AppendAt
import Derived.Deep.AppendLies
import Derived.Test.YtiikkcifdhcejaaHeldT
namespace Go.Proofs.Ytiikkcifdhcejaa
open Go.RowKit

set_option maxRecDepth 100000 in
theorem lints0_any (A : Option Addr) (c n : Nat) (l : List Int) (w : World) (hnl : l.length = n) (hl : l.length ≤ 1000000) (hn : A = none → c = 0) (hr : Sl intCell 1 w w.heap.size A l) :
    Calls Try.prog 15 #[.slice A n c] w (RetOwn 3 intCell 1 l w) := by
  subst hnl
  obtain ⟨i0, hi, iz0, iz1, iz2⟩ := info_parts infoInt
  have hfl : (flat intCell l).length = l.length * 1 := hr.1
  have hok : ∀ u ∈ flat intCell l, u.oneCell' = true := by rw [flat_int]; intro u hu; obtain ⟨x, _, rfl⟩ := List.mem_map.1 hu; rfl
  cases A with
  | none =>
    obtain rfl : c = 0 := hn rfl
    have hl0 : l = [] := hr.len_pos
    subst hl0
    have hown := World.ownsRow_made (e := 3) (size := 1) w #[] 0 (base := w.heap.size) (Nat.le_refl _) (by simp) (by simp)
    have HO := Lib.hid hown
    clear hown hr hfl
    go_enter Try.func15, Try.ntmps15
    go_wp2_with (first | (at_builtin; refine wpList_append_own_none rfl _ _ 30 rfl w.heap.size 3 i0 1 uInts hi _ _ _ rfl HO.out rfl ?_) | fail)
    go_ret
    exact ⟨_, rfl, by simpa [flat] using HO.out, by (repeat (first | exact Below.refl _ _ | assumption | (refine Below.alloc ?_ (by first | omega | (simp; omega) | (simp; done)) _) | (refine Below.setCell ?_ (by first | omega | (simp; omega) | (simp; done)) _) | (refine Below.drew ?_) | (refine belowN ?_ _) | (refine Below.trans ?_ (Below.mono ‹Below _ _ _› (by first | omega | (simp; omega) | (simp; done))))))⟩
  | some ad =>
    have hcell : ∀ (j : Nat) (u : Value), (flat intCell l)[j]? = some u → (w.alloc (.cells #[] 3)).cell? (ad.add j) = some u := fun j u hu => by
      have hpos : 0 < l.length := by
        rcases Nat.eq_zero_or_pos l.length with h | h
        · have : l = [] := List.eq_nil_of_length_eq_zero h
          subst this; simp [flat] at hu
        · exact h
      obtain ⟨b, o, e, hb, hc⟩ := hr.2 hpos
      cases e
      have h1 := hc j u hu
      rw [Go.WideShapes.add_plain, ((Below.refl w.heap.size w).alloc (Nat.le_refl _) _).cell (p := ⟨b, o + j, none⟩) hb]
      exact h1
    have hown := World.ownsRow_made (e := 3) (size := 1) w #[] 0 (base := w.heap.size) (Nat.le_refl _) (by simp) (by simp)
    have HO := Lib.hid hown; have HC := Lib.hid hcell; have HFL := Lib.hid hfl; have HOK := Lib.hid hok
    clear hown hcell hfl hr hok hn
    go_enter Try.func15, Try.ntmps15
    go_wp2_with (first | (at_builtin; refine wpList_append_own _ rfl _ _ 30 rfl w.heap.size 3 i0 (.int .i64 0) 1 8 uInts hi iz0 iz1 iz2 rfl (by decide) _ _ _ rfl HO.out ad l.length c (flat intCell l) rfl HFL.out HC.out HOK.out (by unfold maxLen; omega) (by omega) (by simp) ?_; intro v' w1 hown1 hgrow _) | fail)
    have hb1 : Below w.heap.size w w1 := ((Below.refl _ _).alloc (Nat.le_refl _) _).grown hgrow (by simp) (fun g hg => by cases hg; exact Nat.le_refl _)
    have HO1 := Lib.hid hown1
    clear hown1 hgrow
    go_wp2
    go_ret
    exact ⟨_, rfl, by simpa using HO1.out, hb1⟩
theorem sl_of_ownK {base : Nat} {w : World} {v : Value} {l : List Int} (h : w.ownsRow base 3 1 v l.length (flat intCell l)) : ∃ A c, v = .slice A l.length c ∧ Sl intCell 1 w w.heap.size A l ∧ (A = none → c = 0) ∧ l.length ≤ c := by
  rcases h.2 with ⟨rfl, h0⟩ | ⟨g, cap, cur, rfl, hb, hg, hn, hc, hs, ht⟩
  · exact ⟨none, 0, by rw [h0], ⟨h.1, fun hn => by omega⟩, fun _ => rfl, by omega⟩
  · obtain ⟨A, c, e, hs⟩ := Sl.of_own h
    cases e
    exact ⟨_, _, rfl, hs, fun e => (by cases e), by omega⟩
/-- a copy of a list: in new memory, with room -/
theorem lints_any (A : Option Addr) (c n : Nat) (l : List Int) (w : World) (hnl : l.length = n) (hl : l.length ≤ 1000000) (hn : A = none → c = 0) (hr : Sl intCell 1 w w.heap.size A l) :
    Calls Try.prog 15 #[.slice A n c] w fun e w' => ∃ B k, e = .returned (.slice B n k) ∧ Sl intCell 1 w' w'.heap.size B l ∧ (B = none → k = 0) ∧ l.length ≤ k ∧ w'.ownsRow w.heap.size 3 1 (.slice B l.length k) l.length (flat intCell l) ∧ Below w.heap.size w w' :=
  (lints0_any A c n l w hnl hl hn hr).mono fun _ _ ⟨v, h1, h2, h3⟩ => by
    obtain ⟨A', c', rfl, h4, h5, h6⟩ := sl_of_ownK h2
    exact ⟨A', c', by rw [h1, hnl], h4, h5, h6, h2, h3⟩
theorem rows_apart {W : World} {b b' s s' n n' : Nat} {e e' : TypeId} {v v' : Value} {xs xs' : List Value} (h : W.ownsRow b e s v n xs) (h' : W.ownsRow b' e' s' v' n' xs') (hne : e ≠ e') : v.ownBlock = none ∨ v.ownBlock ≠ v'.ownBlock := by
  rcases h.2 with ⟨rfl, _⟩ | ⟨g, cap, cur, rfl, _, hg, _⟩
  · exact .inl rfl
  · rcases h'.2 with ⟨rfl, _⟩ | ⟨g', cap', cur', rfl, _, hg', _⟩
    · right; simp [Value.ownBlock]
    · right
      simp only [Value.ownBlock, ne_eq, Option.some.injEq]
      rintro rfl
      rw [hg] at hg'; cases hg'; exact hne rfl
theorem grown_no {W W' : World} (h : Below W.heap.size W W') : W.grownBy W' none := ⟨h.os, h.tape, h.output, h.size, fun i hi _ => h.block i hi⟩
theorem owns_low {w : World} {b b' : Nat} {e : TypeId} {size : Nat} {v : Value} {n : Nat} {xs : List Value} (h : w.ownsRow b e size v n xs) (hb : b' ≤ b) : w.ownsRow b' e size v n xs :=
  ⟨h.1, h.2.imp id fun ⟨g, cap, cur, h1, h2, h3⟩ => ⟨g, cap, cur, h1, Nat.le_trans hb h2, h3⟩⟩
theorem own_stp {W w1 : World} {base n size : Nat} {e : TypeId} {v : Value} {xs : List Value} (h : W.ownsRow base e size v n xs) (h1 : Below W.heap.size W w1) : w1.ownsRow base e size v n xs := h.kept (grown_no h1) (by cases hv : v.ownBlock <;> simp)
/-- copied rows -/
structure OwR (W : World) (base : Nat) (v : Value) (ls : List LL) : Prop where
  own : W.ownsRow base 30 1 v ls.length (flat LL.cells ls)
  rows : ∀ r ∈ ls, W.ownsRow base 3 1 r.val r.l.length (flat intCell r.l)
theorem OwR.below {W W' : World} {base : Nat} {v : Value} {ls : List LL} (h : OwR W base v ls) (hb : Below W.heap.size W W') : OwR W' base v ls := ⟨own_stp h.own hb, fun r hr => own_stp (h.rows r hr) hb⟩
theorem OwR.append {W w5 : World} {base base' : Nat} {v v' : Value} {ls : List LL} {q : LL} (h : OwR W base v ls) (hq : W.ownsRow base' 3 1 q.val q.l.length (flat intCell q.l)) (hbb : base ≤ base') (hown : w5.ownsRow base 30 1 v' (ls.length + 1) (flat LL.cells ls ++ [q.val])) (hg : W.grownBy w5 v.ownBlock) : OwR w5 base v' (ls ++ [q]) := by
  have hA : ∀ (b : Nat) (p : LL), W.ownsRow b 3 1 p.val p.l.length (flat intCell p.l) → w5.ownsRow b 3 1 p.val p.l.length (flat intCell p.l) := fun b p hp => hp.kept hg (rows_apart hp h.own (by decide))
  refine ⟨?_, fun p hp => ?_⟩
  · rw [List.length_append, List.length_singleton, show flat LL.cells (ls ++ [q]) = flat LL.cells ls ++ [q.val] by simp [flat, LL.cells]]
    exact hown
  · rcases List.mem_append.1 hp with hp | hp
    · exact hA _ p (h.rows p hp)
    · rw [List.mem_singleton.1 hp]; exact owns_low (hA _ q hq) hbb
theorem OwR.md {W : World} {base : Nat} {v : Value} {ls : List LL} (h : OwR W base v ls) (hl : ls.length ≤ 1000000) (hr : ∀ r ∈ ls, r.l.length ≤ 1000000) (k af : Int) : ∃ A c, v = .slice A ls.length c ∧ (⟨k, A, c, ls, af⟩ : Md).reads W W.heap.size := by
  obtain ⟨A, c, e, hs⟩ := Sl.of_own h.own
  refine ⟨A, c, e, ⟨hs, fun r hr => ?_⟩, hl, hr⟩
  obtain ⟨A', c', e', hs'⟩ := Sl.of_own (h.rows r hr)
  have : r.a = A' := by have := e'; simp [LL.val] at this; exact this.1
  rw [this]; exact hs'
theorem grown_set (W : World) (p : Addr) (u : Value) : W.grownBy (W.setCell p u) (some p.block) := by
  have t := (Below.refl 0 W).setCell (p := p) (Nat.zero_le _) u
  exact ⟨t.os, t.tape, t.output, t.size, fun k _ hk => Below.heap_setCell W p u k (fun e => hk (by rw [e]))⟩
theorem owns_ge {W : World} {b e s n g : Nat} {v : Value} {xs : List Value} (h : W.ownsRow b e s v n xs) (hg : v.ownBlock = some g) : b ≤ g := (h.lt g hg).1
theorem owns_set {W : World} {base n size : Nat} {e : TypeId} {v : Value} {xs : List Value} (h : W.ownsRow base e size v n xs) {p : Addr} (hp : p.block < base) (u : Value) : (W.setCell p u).ownsRow base e size v n xs :=
  h.kept (grown_set W p u) (by
    cases hv : v.ownBlock with
    | none => exact .inl rfl
    | some g => exact .inr (fun e => by cases e; have := owns_ge h hv; omega))
theorem OwR.set {W : World} {base : Nat} {v : Value} {ls : List LL} (h : OwR W base v ls) {p : Addr} (hp : p.block < base) (u : Value) : OwR (W.setCell p u) base v ls := ⟨owns_set h.own hp u, fun r hr => owns_set (h.rows r hr) hp u⟩
theorem infoRow : (Try.prog.info? 30).map (fun i => (i.zero, i.size, i.bytes)) = some (some (.slice none 0 0), 1, 24) := by kernel_rfl
theorem uRowsL : Try.prog.underlying 23 = some (.slice 30) := by kernel_rfl
set_option maxRecDepth 100000 in
set_option maxHeartbeats 4000000 in
theorem lown0_any (kd : Int) (A : Option Addr) (c : Nat) (rows : List LL) (af : Int) (w : World) (hr : (⟨kd, A, c, rows, af⟩ : Md).reads w w.heap.size) (hn : ∀ r ∈ rows, r.a = none → r.c = 0) :
    Calls Try.prog 14 #[.agg #[.int .i64 kd, .slice A rows.length c, .int .i64 af]] w fun e w' => ∃ y : Md, e = .returned (.agg #[.int .i64 y.kind, .slice y.a y.rows.length y.c, .int .i64 y.after]) ∧ y.m = (⟨kd, A, c, rows, af⟩ : Md).m ∧ y.reads w' w'.heap.size ∧ Below w.heap.size w w' := by
  obtain ⟨i1, hi1, iy0, iy1, iy2⟩ := info_parts infoRow
  have HR := Lib.hid hr; have HN := Lib.hid hn
  clear hr hn
  go_enter Try.func14, Try.ntmps14
  go_wp2_with fail
  obtain ⟨b1, hb1⟩ : ∃ q, q = w.heap.size := ⟨_, rfl⟩
  rw [← hb1]
  refine gen_w (fun W => Blk W b1 #[.int .i64 kd, .slice A rows.length c, .int .i64 af] 25 ∧ Blk W (b1 + 1) #[.int .i64 0, .slice none 0 0, .int .i64 0] 25 ∧ Blk W (b1 + 1 + 1) #[.int .i64 kd, .slice none 0 0, .int .i64 af] 25 ∧ Below w.heap.size w W) ⟨((Blk.at_ hb1).alloc _).alloc _, (Blk.at_ (by simp [hb1])).alloc _, Blk.at_ (by simp [hb1]), by (repeat (first | exact Below.refl _ _ | assumption | (refine Below.alloc ?_ (by first | omega | (simp; omega) | (simp; done)) _) | (refine Below.setCell ?_ (by first | omega | (simp; omega) | (simp; done)) _) | (refine Below.drew ?_) | (refine belowN ?_ _) | (refine Below.trans ?_ (Below.mono ‹Below _ _ _› (by first | omega | (simp; omega) | (simp; done))))))⟩ ?_
  rintro V ⟨g1, g2, g3, hV⟩
  have hwb : w.heap.size ≤ b1 := by omega
  have HG1 := Lib.hid g1; have HG2 := Lib.hid g2; have HG3 := Lib.hid g3; have HV := Lib.hid hV
  have hvz := g3.lt
  clear g1 g2 g3 hV hb1
  go_loopw [4] (fun i wr => ∃ k : Nat, k ≤ rows.length ∧ i = .int .i64 k ∧ b1 + 1 + 1 < wr.heap.size ∧ Below w.heap.size w wr ∧ Blk wr b1 #[.int .i64 kd, .slice A rows.length c, .int .i64 af] 25 ∧ Blk wr (b1 + 1) #[.int .i64 0, .slice none 0 0, .int .i64 0] 25 ∧ ∃ (v : Value) (ls : List LL), Blk wr (b1 + 1 + 1) #[.int .i64 kd, v, .int .i64 af] 25 ∧ Hid (OwR wr (b1 + 1 + 1 + 1) v ls ∧ ls.length = k ∧ ls.map LL.l = (rows.take k).map LL.l)) (fun i _ => rows.length - (intOf i).toNat)
  case atStart => exact ⟨0, by omega, rfl, hvz, HV.out, HG1.out, HG2.out, .slice none 0 0, [], HG3.out, ⟨⟨by simp [flat], .inl ⟨rfl, by simp⟩⟩, fun r h => by cases h⟩, rfl, rfl⟩
  case round =>
    obtain ⟨k, hk, rfl, hz, hw, g1, g2, v, ls, g3, ho⟩ := hrel
    clear HG1 HG2 HG3 HV
    have z1 := g1.cell 1; have z3 := g3.cell 1
    simp at z1 z3
    by_cases hlt : k < rows.length
    · obtain ⟨ab, ao, hae, hblk, hcell, hsl⟩ := (HR.out.below hw).ls.at_ (k := k) hlt
      simp only at hae hcell hsl
      subst hae
      obtain ⟨r, hre⟩ : ∃ r, r = rows[k] := ⟨_, rfl⟩
      rw [← hre] at hcell hsl
      have hrl := HR.out.rl r (by rw [hre]; exact List.getElem_mem hlt)
      have hrn := HN.out r (by rw [hre]; exact List.getElem_mem hlt)
      have HRE := Lib.hid hre
      have hab : ab < wr.heap.size := by have := hw.size; omega
      have HI := Lib.hid (fun W (hW : Below wr.heap.size wr W) => lints_any r.a r.c r.l.length r.l W rfl hrl hrn ((hsl.below (hW.mono hw.size)).more (Nat.le_trans hw.size hW.size)))
      have HO := Lib.hid ho.out.1; have HLEN := Lib.hid ho.out.2.1; have HMAP := Lib.hid ho.out.2.2
      have hlr := HR.out.len
      simp only at hlr
      have HW := Lib.hid hw; have HG1 := Lib.hid g1; have HG2 := Lib.hid g2; have HG3 := Lib.hid g3
      clear hre hsl ho hw g1 g2 g3 hrn
      go_upto_region 5 with fail
      refine wp_region_noPanic ?_
      refine wp_region_T (S := fun w' => w'.cell? ⟨b1 + 1 + 1, 1, none⟩ = some v ∧ w'.cell? ⟨b1, 1, none⟩ = some (.slice (some ⟨ab, ao, none⟩) rows.length c) ∧ w'.cell? ⟨ab, ao + k, none⟩ = some (.slice r.a r.l.length r.c)) 11 (by kernel_rfl) (by kernel_rfl) (by kernel_rfl) (by kernel_rfl) (by decide) ⟨z3, z1, hcell⟩ (fun hHeld => ?_)
      refine WT.takeD (i := 0) (d := some 17) (v := ?vo0) rfl rfl (by decide) (by kernel_rfl) (by kernel_rfl) (fun _ _ _ h => h) (Or.inl ⟨by rfl, ?ho0⟩) (by assumption) ?ro0
      case ho0 => (intro w hSw; (try dsimp only at hSw); go_simp; (try with_reducible rfl))
      try simp only [Act.put, List.setIfInBounds_toArray, List.set_cons_zero, List.set_cons_succ]
      refine WT.takeD (i := 1) (d := some 18) (v := ?vo1) rfl rfl (by decide) (by kernel_rfl) (by kernel_rfl) (fun _ _ _ h => h) (Or.inl ⟨by rfl, ?ho1⟩) (by assumption) ?ro1
      case ho1 => (intro w hSw; (try dsimp only at hSw); go_simp; (try with_reducible rfl))
      try simp only [Act.put, List.setIfInBounds_toArray, List.set_cons_zero, List.set_cons_succ]
      refine WT.takeD (i := 2) (d := some 19) (v := ?vo2) rfl rfl (by decide) (by kernel_rfl) (by kernel_rfl) (fun _ _ _ h => h) (Or.inl ⟨by rfl, ?ho2⟩) (by assumption) ?ro2
      case ho2 => (intro w hSw; (try dsimp only at hSw); go_simp; (try with_reducible rfl))
      try simp only [Act.put, List.setIfInBounds_toArray, List.set_cons_zero, List.set_cons_succ]
      refine WT.takeD (i := 3) (d := some 20) (v := ?vo3) rfl rfl (by decide) (by kernel_rfl) (by kernel_rfl) (fun _ _ _ h => h) (Or.inl ⟨by rfl, ?ho3⟩) (by assumption) ?ro3
      case ho3 => (intro w hSw; (try dsimp only at hSw); go_simp; (try with_reducible rfl))
      try simp only [Act.put, List.setIfInBounds_toArray, List.set_cons_zero, List.set_cons_succ]
      refine WT.takeD (i := 4) (d := some 21) (v := ?vo4) rfl rfl (by decide) (by kernel_rfl) (by kernel_rfl) (fun _ _ _ h => h) (Or.inl ⟨by rfl, ?ho4⟩) (by assumption) ?ro4
      case ho4 => (intro w hSw; (try dsimp only at hSw); go_simp; (try with_reducible rfl))
      try simp only [Act.put, List.setIfInBounds_toArray, List.set_cons_zero, List.set_cons_succ]
      refine WT.takeD (i := 5) (d := some 22) (v := ?vo5) rfl rfl (by decide) (by kernel_rfl) (by kernel_rfl) (fun _ _ _ h => h) (Or.inl ⟨by rfl, ?ho5⟩) (by assumption) ?ro5
      case ho5 => (intro w hSw; (try dsimp only at hSw); go_simp; (try with_reducible rfl))
      try simp only [Act.put, List.setIfInBounds_toArray, List.set_cons_zero, List.set_cons_succ]
      refine WT.takeD (i := 6) (d := some 23) (v := ?vo6) rfl rfl (by decide) (by kernel_rfl) (by kernel_rfl) (fun _ _ _ h => h) (Or.inl ⟨by rfl, ?ho6⟩) (by assumption) ?ro6
      case ho6 => (intro w hSw; (try dsimp only at hSw); go_simp; (try with_reducible rfl))
      try simp only [Act.put, List.setIfInBounds_toArray, List.set_cons_zero, List.set_cons_succ]
      refine WT.one (i := 7) rfl (by decide) (by kernel_rfl) (fun K hK => ?_)
      go_simp
      refine (HI.out _ (Below.refl _ wr).drew).mono ?_
      rintro _ w1 ⟨B, kc, rfl, hs1, hB1, hkc, hown1, hb1⟩
      have hb1' : Below wr.heap.size wr w1 := (Below.refl _ wr).drew.trans hb1
      have x3 := (hb1'.cell (p := ⟨b1 + 1 + 1, 1, none⟩) hz).trans z3
      have x1 := (hb1'.cell (p := ⟨b1, 1, none⟩) (by show b1 < _; omega)).trans z1
      have xc := (hb1'.cell (p := ⟨ab, ao + k, none⟩) hab).trans hcell
      have hz1 := hb1'.size
      refine hK.out _ _ ⟨x3, x1, xc⟩ (fun hHeld => ?_)
      clear hK K
      refine WT.one (i := 8) rfl (by decide) (by kernel_rfl) (fun K hK => ?_)
      go_simp
      have y3 := (World.cell?_alloc_lt w1 (.cells #[.slice B r.l.length kc] 30) ⟨b1 + 1 + 1, 1, none⟩ (by show b1 + 1 + 1 < _; omega)).trans x3
      have y1 := (World.cell?_alloc_lt w1 (.cells #[.slice B r.l.length kc] 30) ⟨b1, 1, none⟩ (by show b1 < _; omega)).trans x1
      have yc := (World.cell?_alloc_lt w1 (.cells #[.slice B r.l.length kc] 30) ⟨ab, ao + k, none⟩ (by show ab < _; omega)).trans xc
      refine hK.out _ _ ⟨y3, y1, yc⟩ (fun hHeld => ?_)
      clear hK K
      have hal : Below w1.heap.size w1 (w1.alloc (.cells #[.slice B r.l.length kc] 30)) := (Below.refl _ _).alloc (Nat.le_refl _) _
      have ho2 := (HO.out.below hb1').below hal
      have hq2 := own_stp hown1 hal
      have hlen := HLEN.out
      have hzz : b1 + 1 + 1 < (w1.alloc (.cells #[.slice B r.l.length kc] 30)).heap.size := Nat.lt_of_lt_of_le hz (Nat.le_trans hz1 hal.size)
      have hab1 : ab < w1.heap.size := Nat.lt_of_lt_of_le hab hz1
      have hne : ∀ g, v.ownBlock = some g → b1 + 1 + 1 + 1 ≤ g := fun g hg => owns_ge ho2.own hg
      have hn0 : ∀ q, q < b1 + 1 + 1 + 1 → some q ≠ v.ownBlock := fun q hq e => by have := hne q e.symm; omega
      have hg1 := (HG1.out.below hb1' (by omega)).alloc (.cells #[.slice B r.l.length kc] 30)
      have hg2 := (HG2.out.below hb1' (by omega)).alloc (.cells #[.slice B r.l.length kc] 30)
      have hg3 := (HG3.out.below hb1' (by omega)).alloc (.cells #[.slice B r.l.length kc] 30)
      have hbw2 := (HW.out.trans (hb1'.mono HW.out.size)).alloc (by have := HW.out.size; omega) (.cells #[.slice B r.l.length kc] 30)
      refine WT.one (i := 9) rfl (by decide) (by kernel_rfl) (fun K hK => ?_)
      refine step_append_lies _ (by rfl) _ _ _ (by rfl) (b1 + 1 + 1 + 1) 30 i1 (.slice none 0 0) 1 24 uRowsL hi1 iy0 iy1 iy2 rfl (by omega) v ls.length (flat LL.cells ls) (by rfl) ho2.own _ 1 1 [.slice B r.l.length kc] (by rfl) (by rfl) (World.news_of_block (cs := #[.slice B r.l.length kc]) (t := 30) (fr := (0, 0)) (heap_alloc_new w1 _)) (by simp [Value.oneCell']) (by omega) (by unfold maxLen; omega) (by omega) (by simp; omega) _ rfl ?_
      intro gg cap w5 hown5 hgrow hat hgl
      have u3 := (hgrow.cell_far ⟨b1 + 1 + 1, 1, none⟩ hzz (hn0 _ (by show b1 + 1 + 1 < _; omega))).trans y3
      have u1 := (hgrow.cell_far ⟨b1, 1, none⟩ (Nat.lt_trans (by show b1 < b1 + 1 + 1; omega) hzz) (hn0 _ (by show b1 < _; omega))).trans y1
      have uc := (hgrow.cell_far ⟨ab, ao + k, none⟩ (Nat.lt_trans hab1 (by simp)) (hn0 _ (by show ab < _; omega))).trans yc
      have hg1 := hg1.grown hgrow (hn0 _ (by omega))
      have hg2 := hg2.grown hgrow (hn0 _ (by omega))
      have hg3 := hg3.grown hgrow (hn0 _ (by omega))
      have hbw5 := hbw2.grown hgrow (by have := HW.out.size; simp; omega) (fun g hg => by have := hne g hg; omega)
      have ho5 := OwR.append (q := ⟨B, kc, r.l⟩) ho2 hq2 (by show b1 + 1 + 1 + 1 ≤ wr.heap.size; omega) hown5 hgrow
      have f3 := hg3.free 1
      have HO5 := Lib.hid ho5; have HG5 := Lib.hid hg3; have HB5 := Lib.hid hbw5; have HGa := Lib.hid hg1; have HGb := Lib.hid hg2
      clear ho5 hg1 hg2 hg3 hbw5 hbw2 ho2 hq2 hown5 hgrow hat hown1 hb1 hb1' x3 x1 xc y3 y1 yc z3 z1 hcell hne hn0 hal
      refine hK.out _ _ ⟨u3, u1, uc⟩ (fun hHeld => ?_)
      clear hK K
      refine WT.takeD (i := 10) (d := some 27) (v := ?vo10) rfl rfl (by decide) (by kernel_rfl) (by kernel_rfl) (fun _ _ _ h => h) (Or.inl ⟨by rfl, ?ho10⟩) (by assumption) ?ro10
      case ho10 => (intro w hSw; (try dsimp only at hSw); go_simp; (try with_reducible rfl))
      try simp only [Act.put, List.setIfInBounds_toArray, List.set_cons_zero, List.set_cons_succ]
      refine WT.last rfl (by kernel_rfl) (by kernel_rfl) (fun K hK => ?_)
      go_simp
      refine hK.out _ _ ?_
      clear hK K
      refine NoPanic.normal ?_
      have hl5 := HG5.out.lt
      rw [hlen] at HO5
      go_wp2_with fail
      refine ⟨⟨k + 1, by omega, by go_num, by simpa using hl5, HB5.out.setCell (by show w.heap.size ≤ b1 + 1 + 1; omega) _, HGa.out.far ⟨b1 + 1 + 1, 1, none⟩ (by show b1 ≠ b1 + 1 + 1; omega) _, HGb.out.far ⟨b1 + 1 + 1, 1, none⟩ (by show b1 + 1 ≠ b1 + 1 + 1; omega) _, _, ls ++ [⟨B, kc, r.l⟩], ?_, HO5.out.set (by show b1 + 1 + 1 < b1 + 1 + 1 + 1; omega) _, by simp [hlen], ?_⟩, ?_⟩
      · have := HG5.out.set 1 (.slice (some ⟨gg, 0, none⟩) (ls.length + 1) cap); simp [hlen] at this; exact this
      · rw [List.map_append, HMAP.out, List.take_succ_eq_append_getElem hlt, List.map_append, ← HRE.out]; rfl
      · simp [intOf]; omega
    · obtain rfl : k = rows.length := by omega
      have hm := ho.out.2.2
      rw [List.take_length] at hm
      have hlr := HR.out.len
      simp only at hlr
      obtain ⟨A9, c9, rfl, hrd⟩ := ho.out.1.md (by rw [ho.out.2.1]; exact hlr) (fun r hr => by
        have : r.l ∈ rows.map LL.l := by rw [← hm]; exact List.mem_map_of_mem hr
        obtain ⟨q, hq, e⟩ := List.mem_map.1 this
        rw [← e]; exact HR.out.rl q hq) kd af
      have q0 := g3.cell 0; have q1 := g3.cell 1; have q2 := g3.cell 2
      have p0 := g2.cell 0; have p1 := g2.cell 1; have p2 := g2.cell 2; have f0 := g2.free 0; have f1 := g2.free 1; have f2 := g2.free 2
      simp at q0 q1 q2 p0 p1 p2
      have HM := Lib.hid hm; have HG2' := Lib.hid g2; have HW := Lib.hid hw; have HO := Lib.hid ho.out.1; have HLE := Lib.hid ho.out.2.1
      clear ho hm hrd g1 g2 g3 hw
      go_wp2_with fail
      have m2 := ((HG2'.out.set 0 (.int .i64 kd)).set 1 (.slice A9 ls.length c9)).set 2 (.int .i64 af)
      have o2 := ((HO.out.set (p := ⟨b1 + 1, 0, none⟩) (by show b1 + 1 < _; omega) (.int .i64 kd)).set (p := ⟨b1 + 1, 1, none⟩) (by show b1 + 1 < _; omega) (.slice A9 ls.length c9)).set (p := ⟨b1 + 1, 2, none⟩) (by show b1 + 1 < _; omega) (.int .i64 af)
      have w2 := ((HW.out.setCell (p := ⟨b1 + 1, 0, none⟩) (by show w.heap.size ≤ b1 + 1; omega) (.int .i64 kd)).setCell (p := ⟨b1 + 1, 1, none⟩) (by show w.heap.size ≤ b1 + 1; omega) (.slice A9 ls.length c9)).setCell (p := ⟨b1 + 1, 2, none⟩) (by show w.heap.size ≤ b1 + 1; omega) (.int .i64 af)
      simp at m2
      generalize ((wr.setCell ⟨b1 + 1, 0, none⟩ (.int .i64 kd)).setCell ⟨b1 + 1, 1, none⟩ (.slice A9 ls.length c9)).setCell ⟨b1 + 1, 2, none⟩ (.int .i64 af) = W9 at m2 o2 w2 ⊢
      obtain ⟨A8, c8, e8, hrd⟩ := o2.md (by rw [HLE.out]; exact hlr) (fun r hr => by
        have : r.l ∈ rows.map LL.l := by rw [← HM.out]; exact List.mem_map_of_mem hr
        obtain ⟨q, hq, e⟩ := List.mem_map.1 this
        rw [← e]; exact HR.out.rl q hq) kd af
      simp at e8
      obtain ⟨rfl, rfl⟩ := e8
      have t0 := m2.cell 0; have t1 := m2.cell 1; have t2 := m2.cell 2
      simp at t0 t1 t2
      exact bodyPost_ret (v := .agg #[.int .i64 kd, .slice A9 ls.length c9, .int .i64 af]) (by simp [results, Try.results14, go_sem, t0, t1, t2]) rfl ⟨⟨kd, A9, c9, ls, af⟩, rfl, by unfold Md.m; simp only [HM.out], hrd, w2⟩
theorem lown_any (x : Md) (w : World) (hr : x.reads w w.heap.size) (hn : ∀ r ∈ x.rows, r.a = none → r.c = 0) :
    Calls Try.prog 14 #[.agg #[.int .i64 x.kind, .slice x.a x.rows.length x.c, .int .i64 x.after]] w fun e w' => ∃ y : Md, e = .returned (.agg #[.int .i64 y.kind, .slice y.a y.rows.length y.c, .int .i64 y.after]) ∧ y.m = x.m ∧ y.reads w' w'.heap.size ∧ Below w.heap.size w w' := lown0_any x.kind x.a x.c x.rows x.after w hr hn
def largeB (m : HMd) : Bool := decide (40 < m.rows.length) || m.rows.any fun r => decide (40 < r.length)
theorem any_take {α : Type} (p : α → Bool) {l : List α} {k : Nat} (hk : k < l.length) : (l.take (k + 1)).any p = ((l.take k).any p || p l[k]) := by
  rw [List.take_succ_eq_append_getElem hk, List.any_append]; simp
set_option maxRecDepth 100000 in
set_option maxHeartbeats 4000000 in
theorem llarge0_any (kd : Int) (A : Option Addr) (c : Nat) (rows : List LL) (af : Int) (w : World) (hr : Lists w w.heap.size A rows) :
    Calls Try.prog 11 #[.agg #[.int .i64 kd, .slice A rows.length c, .int .i64 af]] w fun e w' => e = .returned (.bool (largeB (⟨kd, A, c, rows, af⟩ : Md).m)) ∧ Below w.heap.size w w' := by
  have HR := Lib.hid hr
  clear hr
  by_cases h40 : 40 < rows.length
  · have HE : Hid (largeB (⟨kd, A, c, rows, af⟩ : Md).m = true) := (by show _ = _; unfold largeB Md.m; simp [h40] : _)
    have hQ : decide ((40 : Int) < (rows.length : Int)) = true := by simp; omega
    go_enter Try.func11, Try.ntmps11
    go_wp2
    refine bodyPost_ret (v := .bool true) (by simp [results, Try.results11, go_sem]) rfl ?_
    rw [HE.out]
    exact ⟨rfl, by (repeat (first | exact Below.refl _ _ | assumption | (refine Below.alloc ?_ (by first | omega | (simp; omega) | (simp; done)) _) | (refine Below.setCell ?_ (by first | omega | (simp; omega) | (simp; done)) _) | (refine Below.drew ?_) | (refine belowN ?_ _) | (refine Below.trans ?_ (Below.mono ‹Below _ _ _› (by first | omega | (simp; omega) | (simp; done))))))⟩
  have hQ : decide ((40 : Int) < (rows.length : Int)) = false := by simp; omega
  go_enter Try.func11, Try.ntmps11
  go_wp2_with fail
  obtain ⟨b1, hb1⟩ : ∃ q, q = w.heap.size := ⟨_, rfl⟩
  rw [← hb1]
  refine gen_w (fun W => Blk W b1 #[.int .i64 kd, .slice A rows.length c, .int .i64 af] 25 ∧ Below w.heap.size w W) ⟨Blk.at_ hb1, by (repeat (first | exact Below.refl _ _ | assumption | (refine Below.alloc ?_ (by first | omega | (simp; omega) | (simp; done)) _) | (refine Below.setCell ?_ (by first | omega | (simp; omega) | (simp; done)) _) | (refine Below.drew ?_) | (refine belowN ?_ _) | (refine Below.trans ?_ (Below.mono ‹Below _ _ _› (by first | omega | (simp; omega) | (simp; done))))))⟩ ?_
  rintro V ⟨g1, hV⟩
  have HV := Lib.hid hV
  have z1 := g1.cell 1
  simp at z1
  have hl1 := g1.lt
  clear hb1 hV g1
  go_loop [3] (fun i => ∃ k : Nat, k ≤ rows.length ∧ i = .int .i64 k ∧ Hid ((rows.take k).any (fun r => decide (40 < r.l.length)) = false)) (fun i => rows.length - (intOf i).toNat)
  case atStart => exact ⟨0, by omega, rfl, Lib.hid (by simp)⟩
  case round =>
    obtain ⟨k, hk, rfl, hno⟩ := hrel
    by_cases hlt : k < rows.length
    · obtain ⟨ab, ao, hae, hblk, hcell, hsl⟩ := (HR.out.below HV.out).at_ hlt
      subst hae
      have hany := any_take (fun r : LL => decide (40 < r.l.length)) hlt
      obtain ⟨r, hre⟩ : ∃ r, r = rows[k] := ⟨_, rfl⟩
      rw [← hre] at hcell hany
      have HRE := Lib.hid hre; have HANY := Lib.hid hany
      clear hre hsl hany
      by_cases h9 : 40 < r.l.length
      · have hQ9 : decide ((40 : Int) < (r.l.length : Int)) = true := by simp; omega
        have HE : Hid (largeB (⟨kd, some ⟨ab, ao, none⟩, c, rows, af⟩ : Md).m = true) := (by
          show _ = _; unfold largeB Md.m
          simp only [Bool.or_eq_true, List.any_map, List.any_eq_true, List.length_map]
          exact .inr ⟨r, by rw [HRE.out]; exact List.getElem_mem hlt, by simp [h9]⟩ : _)
        go_wp2_with fail
        refine bodyPost_ret (v := .bool true) (by simp [results, Try.results11, go_sem]) rfl ?_
        rw [HE.out]
        exact ⟨rfl, HV.out⟩
      · have hQ9 : decide ((40 : Int) < (r.l.length : Int)) = false := by simp; omega
        have HN : Hid ((rows.take (k + 1)).any (fun r => decide (40 < r.l.length)) = false) := (by show _ = _; rw [HANY.out, hno.out]; simp; omega : _)
        go_wp2_with fail
        go_round
        case rel => exact ⟨k + 1, by omega, by go_num, HN.out⟩
        case measure => simp [intOf]; omega
    · obtain rfl : k = rows.length := by omega
      have hE := hno.out
      rw [List.take_length] at hE
      have HE : Hid (largeB (⟨kd, A, c, rows, af⟩ : Md).m = false) := (by
        show _ = _; unfold largeB Md.m
        simp only [List.any_map, List.length_map, Bool.or_eq_false_iff]
        exact ⟨by simp; omega, hE⟩ : _)
      go_wp2_with fail
      refine bodyPost_ret (v := .bool false) (by simp [results, Try.results11, go_sem]) rfl ?_
      rw [HE.out]
      exact ⟨rfl, HV.out⟩
theorem llarge_any (x : Md) (w : World) (hr : Lists w w.heap.size x.a x.rows) :
    Calls Try.prog 11 #[.agg #[.int .i64 x.kind, .slice x.a x.rows.length x.c, .int .i64 x.after]] w fun e w' => e = .returned (.bool (largeB x.m)) ∧ Below w.heap.size w w' := llarge0_any x.kind x.a x.c x.rows x.after w hr
end Go.Proofs.Ytiikkcifdhcejaa

/- habit: copies of models that lie in blocks of their own, gathered in a row. -/
import Derived.Test.YtiikkcifdhcejaaWs
import Derived.Test.YtiikkcifdhcejaaZ02Go
namespace Go.Proofs.Ytiikkcifdhcejaa
open Go.RowKit

theorem OwR.low {W : World} {base base' : Nat} {v : Value} {ls : List LL} (h : OwR W base v ls) (hb : base' ≤ base) : OwR W base' v ls := ⟨owns_low h.own hb, fun r hr => owns_low (h.rows r hr) hb⟩
/-- the lists of a model lie from lo on -/
def MdHi (lo : Nat) (x : Md) : Prop := (∀ ad, x.a = some ad → lo ≤ ad.block) ∧ ∀ r ∈ x.rows, ∀ ad, r.a = some ad → lo ≤ ad.block
/-- they lie in no block of P -/
def MdAv (P : Nat → Prop) (x : Md) : Prop := (0 < x.rows.length → ∀ ad, x.a = some ad → ¬ P ad.block) ∧ ∀ r ∈ x.rows, 0 < r.l.length → ∀ ad, r.a = some ad → ¬ P ad.block
theorem own_lo {W : World} {base e s n : Nat} {A : Option Addr} {k c : Nat} {xs : List Value} (h : W.ownsRow base e s (.slice A k c) n xs) : ∀ ad, A = some ad → base ≤ ad.block := fun ad e1 => by
  rcases h.2 with ⟨h1, _⟩ | ⟨g, cap, cur, h1, hb, _⟩
  · rw [e1] at h1; cases h1
  · rw [e1] at h1; cases h1; exact hb
theorem OwR.hi {W : World} {base lo : Nat} {A : Option Addr} {n c : Nat} {ls : List LL} {kd af : Int} (h : OwR W base (.slice A n c) ls) (hb : lo ≤ base) : MdHi lo ⟨kd, A, c, ls, af⟩ :=
  ⟨fun ad e => Nat.le_trans hb (own_lo h.own ad e), fun r hr ad e => Nat.le_trans hb (own_lo (h.rows r hr) ad e)⟩
theorem MdHi.av {lo : Nat} {x : Md} {P : Nat → Prop} (h : MdHi lo x) (hp : ∀ r, P r → r < lo) : MdAv P x :=
  ⟨fun _ ad e hq => by have := h.1 ad e; have := hp _ hq; omega, fun r hr _ ad e hq => by have := h.2 r hr ad e; have := hp _ hq; omega⟩
theorem Sl.grownN {α : Type} {f : α → List Value} {size : Nat} {W W' : World} {B : Nat} {A : Option Addr} {l : List α} {row : Option Nat} (h : Sl f size W B A l) (hg : W.grownBy W' row) (hB : B ≤ W.heap.size)
    (hr : 0 < l.length → ∀ ad, A = some ad → some ad.block ≠ row) : Sl f size W' B A l :=
  ⟨h.1, fun hn => by
    obtain ⟨b, o, e, hb, hc⟩ := h.2 hn
    refine ⟨b, o, e, hb, fun j u hu => ?_⟩
    rw [hg.cell_far ⟨b, o + j, none⟩ (by show b < _; omega) (hr hn ⟨b, o, none⟩ e)]
    exact hc j u hu⟩
theorem Sl.inW {α : Type} {f : α → List Value} {size : Nat} {W : World} {B : Nat} {A : Option Addr} {l : List α} (h : Sl f size W B A l) (hn : 0 < l.length) : ∀ ad, A = some ad → ad.block < B := fun ad e => by
  obtain ⟨b, o, e2, hb, _⟩ := h.2 hn
  rw [e] at e2; cases e2; exact hb
theorem Md.reads.grownN {x : Md} {W W' : World} {row : Option Nat} {P : Nat → Prop} (h : x.reads W W.heap.size) (hg : W.grownBy W' row) (ha : MdAv P x) (hp : ∀ r, row = some r → P r) : x.reads W' W'.heap.size := by
  refine Md.reads.more ⟨⟨h.ls.top.grownN hg (Nat.le_refl _) fun hn ad e e2 => ha.1 hn ad e (hp _ e2.symm), fun r hr => (h.ls.row r hr).grownN hg (Nat.le_refl _) fun hn ad e e2 => ha.2 r hr hn ad e (hp _ e2.symm)⟩, h.len, h.rl⟩ hg.size
theorem MdAv.more {x : Md} {W : World} {P P' : Nat → Prop} (ha : MdAv P x) (h : x.reads W W.heap.size) (hp : ∀ r, P' r → P r ∨ W.heap.size ≤ r) : MdAv P' x :=
  ⟨fun hn ad e hq => by
    have h1 := h.ls.top.inW hn ad e
    rcases hp _ hq with h2 | h2
    · exact ha.1 hn ad e h2
    · omega,
  fun r hr hn ad e hq => by
    have h1 := (h.ls.row r hr).inW hn ad e
    rcases hp _ hq with h2 | h2
    · exact ha.2 r hr hn ad e h2
    · omega⟩
/-- rows that lie in blocks of their own, one behind the other -/
def SepR (ls : List LL) : Prop := ls.Pairwise fun r s => ∀ ad ad', r.a = some ad → s.a = some ad' → ad.block < ad'.block
theorem own_lt {W : World} {base e s n k c : Nat} {A : Option Addr} {xs : List Value} (h : W.ownsRow base e s (.slice A k c) n xs) : ∀ ad, A = some ad → ad.block < W.heap.size := fun ad e1 => (h.lt ad.block (by rw [e1]; rfl)).2
theorem SepR.snoc {ls : List LL} {q : LL} {B : Nat} (h : SepR ls) (h1 : ∀ r ∈ ls, ∀ ad, r.a = some ad → ad.block < B) (h2 : ∀ ad, q.a = some ad → B ≤ ad.block) : SepR (ls ++ [q]) := by
  unfold SepR at h ⊢
  rw [List.pairwise_append]
  refine ⟨h, by simp, fun r hr s hs ad ad' e1 e2 => ?_⟩
  rw [List.mem_singleton.1 hs] at e2
  have := h1 r hr ad e1; have := h2 ad' e2; omega
set_option maxRecDepth 100000 in
set_option maxHeartbeats 4000000 in
theorem lownH0_any (kd : Int) (A : Option Addr) (c : Nat) (rows : List LL) (af : Int) (w : World) (hr : (⟨kd, A, c, rows, af⟩ : Md).reads w w.heap.size) (hn : ∀ r ∈ rows, r.a = none → r.c = 0) :
    Calls Try.prog 14 #[.agg #[.int .i64 kd, .slice A rows.length c, .int .i64 af]] w fun e w' => ∃ y : Md, e = .returned (.agg #[.int .i64 y.kind, .slice y.a y.rows.length y.c, .int .i64 y.after]) ∧ y.m = (⟨kd, A, c, rows, af⟩ : Md).m ∧ y.reads w' w'.heap.size ∧ MdHi w.heap.size y ∧ Below w.heap.size w w' ∧ OwR w' w.heap.size (.slice y.a y.rows.length y.c) y.rows ∧ SepR y.rows := by
  obtain ⟨i1, hi1, iy0, iy1, iy2⟩ := info_parts infoRow
  have HR := Lib.hid hr; have HN := Lib.hid hn
  clear hr hn
  go_enter Try.func14, Try.ntmps14
  go_wp2_with fail
  obtain ⟨b1, hb1⟩ : ∃ q, q = w.heap.size := ⟨_, rfl⟩
  rw [← hb1]
  refine gen_w (fun W => Blk W b1 #[.int .i64 kd, .slice A rows.length c, .int .i64 af] 25 ∧ Blk W (b1 + 1) #[.int .i64 0, .slice none 0 0, .int .i64 0] 25 ∧ Blk W (b1 + 1 + 1) #[.int .i64 kd, .slice none 0 0, .int .i64 af] 25 ∧ Below w.heap.size w W) ⟨((Blk.at_ hb1).alloc _).alloc _, (Blk.at_ (by simp [hb1])).alloc _, Blk.at_ (by simp [hb1]), by (repeat (first | exact Below.refl _ _ | assumption | (refine Below.alloc ?_ (by first | omega | (simp; omega) | (simp; done)) _) | (refine Below.setCell ?_ (by first | omega | (simp; omega) | (simp; done)) _) | (refine Below.drew ?_) | (refine belowN ?_ _) | (refine Below.trans ?_ (Below.mono ‹Below _ _ _› (by first | omega | (simp; omega) | (simp; done))))))⟩ ?_
  rintro V ⟨g1, g2, g3, hV⟩
  have hwb : w.heap.size ≤ b1 := by omega
  have HG1 := Lib.hid g1; have HG2 := Lib.hid g2; have HG3 := Lib.hid g3; have HV := Lib.hid hV
  have hvz := g3.lt
  clear g1 g2 g3 hV hb1
  go_loopw [4] (fun i wr => ∃ k : Nat, k ≤ rows.length ∧ i = .int .i64 k ∧ b1 + 1 + 1 < wr.heap.size ∧ Below w.heap.size w wr ∧ Blk wr b1 #[.int .i64 kd, .slice A rows.length c, .int .i64 af] 25 ∧ Blk wr (b1 + 1) #[.int .i64 0, .slice none 0 0, .int .i64 0] 25 ∧ ∃ (v : Value) (ls : List LL), Blk wr (b1 + 1 + 1) #[.int .i64 kd, v, .int .i64 af] 25 ∧ Hid (OwR wr (b1 + 1 + 1 + 1) v ls ∧ ls.length = k ∧ ls.map LL.l = (rows.take k).map LL.l ∧ SepR ls)) (fun i _ => rows.length - (intOf i).toNat)
  case atStart => exact ⟨0, by omega, rfl, hvz, HV.out, HG1.out, HG2.out, .slice none 0 0, [], HG3.out, ⟨⟨by simp [flat], .inl ⟨rfl, by simp⟩⟩, fun r h => by cases h⟩, rfl, rfl, List.Pairwise.nil⟩
  case round =>
    obtain ⟨k, hk, rfl, hz, hw, g1, g2, v, ls, g3, ho⟩ := hrel
    clear HG1 HG2 HG3 HV
    have z1 := g1.cell 1; have z3 := g3.cell 1
    simp at z1 z3
    by_cases hlt : k < rows.length
    · obtain ⟨ab, ao, hae, hblk, hcell, hsl⟩ := (HR.out.below hw).ls.at_ (k := k) hlt
      simp only at hae hcell hsl
      subst hae
      obtain ⟨r, hre⟩ : ∃ r, r = rows[k] := ⟨_, rfl⟩
      rw [← hre] at hcell hsl
      have hrl := HR.out.rl r (by rw [hre]; exact List.getElem_mem hlt)
      have hrn := HN.out r (by rw [hre]; exact List.getElem_mem hlt)
      have HRE := Lib.hid hre
      have hab : ab < wr.heap.size := by have := hw.size; omega
      have HI := Lib.hid (fun W (hW : Below wr.heap.size wr W) => lints_any r.a r.c r.l.length r.l W rfl hrl hrn ((hsl.below (hW.mono hw.size)).more (Nat.le_trans hw.size hW.size)))
      have HO := Lib.hid ho.out.1; have HLEN := Lib.hid ho.out.2.1; have HMAP := Lib.hid ho.out.2.2.1; have HSEP := Lib.hid ho.out.2.2.2
      have hlr := HR.out.len
      simp only at hlr
      have HW := Lib.hid hw; have HG1 := Lib.hid g1; have HG2 := Lib.hid g2; have HG3 := Lib.hid g3
      clear hre hsl ho hw g1 g2 g3 hrn
      go_upto_region 5 with fail
      refine wp_region_noPanic ?_
      refine wp_region_T (S := fun w' => w'.cell? ⟨b1 + 1 + 1, 1, none⟩ = some v ∧ w'.cell? ⟨b1, 1, none⟩ = some (.slice (some ⟨ab, ao, none⟩) rows.length c) ∧ w'.cell? ⟨ab, ao + k, none⟩ = some (.slice r.a r.l.length r.c)) 11 (by kernel_rfl) (by kernel_rfl) (by kernel_rfl) (by kernel_rfl) (by decide) ⟨z3, z1, hcell⟩ (fun hHeld => ?_)
      refine WT.takeD (i := 0) (d := some 17) (v := ?vo0) rfl rfl (by decide) (by kernel_rfl) (by kernel_rfl) (fun _ _ _ h => h) (Or.inl ⟨by rfl, ?ho0⟩) (by assumption) ?ro0
      case ho0 => (intro w hSw; (try dsimp only at hSw); go_simp; (try with_reducible rfl))
      try simp only [Act.put, List.setIfInBounds_toArray, List.set_cons_zero, List.set_cons_succ]
      refine WT.takeD (i := 1) (d := some 18) (v := ?vo1) rfl rfl (by decide) (by kernel_rfl) (by kernel_rfl) (fun _ _ _ h => h) (Or.inl ⟨by rfl, ?ho1⟩) (by assumption) ?ro1
      case ho1 => (intro w hSw; (try dsimp only at hSw); go_simp; (try with_reducible rfl))
      try simp only [Act.put, List.setIfInBounds_toArray, List.set_cons_zero, List.set_cons_succ]
      refine WT.takeD (i := 2) (d := some 19) (v := ?vo2) rfl rfl (by decide) (by kernel_rfl) (by kernel_rfl) (fun _ _ _ h => h) (Or.inl ⟨by rfl, ?ho2⟩) (by assumption) ?ro2
      case ho2 => (intro w hSw; (try dsimp only at hSw); go_simp; (try with_reducible rfl))
      try simp only [Act.put, List.setIfInBounds_toArray, List.set_cons_zero, List.set_cons_succ]
      refine WT.takeD (i := 3) (d := some 20) (v := ?vo3) rfl rfl (by decide) (by kernel_rfl) (by kernel_rfl) (fun _ _ _ h => h) (Or.inl ⟨by rfl, ?ho3⟩) (by assumption) ?ro3
      case ho3 => (intro w hSw; (try dsimp only at hSw); go_simp; (try with_reducible rfl))
      try simp only [Act.put, List.setIfInBounds_toArray, List.set_cons_zero, List.set_cons_succ]
      refine WT.takeD (i := 4) (d := some 21) (v := ?vo4) rfl rfl (by decide) (by kernel_rfl) (by kernel_rfl) (fun _ _ _ h => h) (Or.inl ⟨by rfl, ?ho4⟩) (by assumption) ?ro4
      case ho4 => (intro w hSw; (try dsimp only at hSw); go_simp; (try with_reducible rfl))
      try simp only [Act.put, List.setIfInBounds_toArray, List.set_cons_zero, List.set_cons_succ]
      refine WT.takeD (i := 5) (d := some 22) (v := ?vo5) rfl rfl (by decide) (by kernel_rfl) (by kernel_rfl) (fun _ _ _ h => h) (Or.inl ⟨by rfl, ?ho5⟩) (by assumption) ?ro5
      case ho5 => (intro w hSw; (try dsimp only at hSw); go_simp; (try with_reducible rfl))
      try simp only [Act.put, List.setIfInBounds_toArray, List.set_cons_zero, List.set_cons_succ]
      refine WT.takeD (i := 6) (d := some 23) (v := ?vo6) rfl rfl (by decide) (by kernel_rfl) (by kernel_rfl) (fun _ _ _ h => h) (Or.inl ⟨by rfl, ?ho6⟩) (by assumption) ?ro6
      case ho6 => (intro w hSw; (try dsimp only at hSw); go_simp; (try with_reducible rfl))
      try simp only [Act.put, List.setIfInBounds_toArray, List.set_cons_zero, List.set_cons_succ]
      refine WT.one (i := 7) rfl (by decide) (by kernel_rfl) (fun K hK => ?_)
      go_simp
      refine (HI.out _ (Below.refl _ wr).drew).mono ?_
      rintro _ w1 ⟨B, kc, rfl, hs1, hB1, hkc, hown1, hb1⟩
      have HSE2 : Hid (SepR (ls ++ [⟨B, kc, r.l⟩])) := Lib.hid (HSEP.out.snoc (fun q hq => own_lt (HO.out.rows q hq)) (own_lo hown1))
      have hb1' : Below wr.heap.size wr w1 := (Below.refl _ wr).drew.trans hb1
      have x3 := (hb1'.cell (p := ⟨b1 + 1 + 1, 1, none⟩) hz).trans z3
      have x1 := (hb1'.cell (p := ⟨b1, 1, none⟩) (by show b1 < _; omega)).trans z1
      have xc := (hb1'.cell (p := ⟨ab, ao + k, none⟩) hab).trans hcell
      have hz1 := hb1'.size
      refine hK.out _ _ ⟨x3, x1, xc⟩ (fun hHeld => ?_)
      clear hK K
      refine WT.one (i := 8) rfl (by decide) (by kernel_rfl) (fun K hK => ?_)
      go_simp
      have y3 := (World.cell?_alloc_lt w1 (.cells #[.slice B r.l.length kc] 30) ⟨b1 + 1 + 1, 1, none⟩ (by show b1 + 1 + 1 < _; omega)).trans x3
      have y1 := (World.cell?_alloc_lt w1 (.cells #[.slice B r.l.length kc] 30) ⟨b1, 1, none⟩ (by show b1 < _; omega)).trans x1
      have yc := (World.cell?_alloc_lt w1 (.cells #[.slice B r.l.length kc] 30) ⟨ab, ao + k, none⟩ (by show ab < _; omega)).trans xc
      refine hK.out _ _ ⟨y3, y1, yc⟩ (fun hHeld => ?_)
      clear hK K
      have hal : Below w1.heap.size w1 (w1.alloc (.cells #[.slice B r.l.length kc] 30)) := (Below.refl _ _).alloc (Nat.le_refl _) _
      have ho2 := (HO.out.below hb1').below hal
      have hq2 := own_stp hown1 hal
      have hlen := HLEN.out
      have hzz : b1 + 1 + 1 < (w1.alloc (.cells #[.slice B r.l.length kc] 30)).heap.size := Nat.lt_of_lt_of_le hz (Nat.le_trans hz1 hal.size)
      have hab1 : ab < w1.heap.size := Nat.lt_of_lt_of_le hab hz1
      have hne : ∀ g, v.ownBlock = some g → b1 + 1 + 1 + 1 ≤ g := fun g hg => owns_ge ho2.own hg
      have hn0 : ∀ q, q < b1 + 1 + 1 + 1 → some q ≠ v.ownBlock := fun q hq e => by have := hne q e.symm; omega
      have hg1 := (HG1.out.below hb1' (by omega)).alloc (.cells #[.slice B r.l.length kc] 30)
      have hg2 := (HG2.out.below hb1' (by omega)).alloc (.cells #[.slice B r.l.length kc] 30)
      have hg3 := (HG3.out.below hb1' (by omega)).alloc (.cells #[.slice B r.l.length kc] 30)
      have hbw2 := (HW.out.trans (hb1'.mono HW.out.size)).alloc (by have := HW.out.size; omega) (.cells #[.slice B r.l.length kc] 30)
      refine WT.one (i := 9) rfl (by decide) (by kernel_rfl) (fun K hK => ?_)
      refine step_append_lies _ (by rfl) _ _ _ (by rfl) (b1 + 1 + 1 + 1) 30 i1 (.slice none 0 0) 1 24 uRowsL hi1 iy0 iy1 iy2 rfl (by omega) v ls.length (flat LL.cells ls) (by rfl) ho2.own _ 1 1 [.slice B r.l.length kc] (by rfl) (by rfl) (World.news_of_block (cs := #[.slice B r.l.length kc]) (t := 30) (fr := (0, 0)) (heap_alloc_new w1 _)) (by simp [Value.oneCell']) (by omega) (by unfold maxLen; omega) (by omega) (by simp; omega) _ rfl ?_
      intro gg cap w5 hown5 hgrow hat hgl
      have u3 := (hgrow.cell_far ⟨b1 + 1 + 1, 1, none⟩ hzz (hn0 _ (by show b1 + 1 + 1 < _; omega))).trans y3
      have u1 := (hgrow.cell_far ⟨b1, 1, none⟩ (Nat.lt_trans (by show b1 < b1 + 1 + 1; omega) hzz) (hn0 _ (by show b1 < _; omega))).trans y1
      have uc := (hgrow.cell_far ⟨ab, ao + k, none⟩ (Nat.lt_trans hab1 (by simp)) (hn0 _ (by show ab < _; omega))).trans yc
      have hg1 := hg1.grown hgrow (hn0 _ (by omega))
      have hg2 := hg2.grown hgrow (hn0 _ (by omega))
      have hg3 := hg3.grown hgrow (hn0 _ (by omega))
      have hbw5 := hbw2.grown hgrow (by have := HW.out.size; simp; omega) (fun g hg => by have := hne g hg; omega)
      have ho5 := OwR.append (q := ⟨B, kc, r.l⟩) ho2 hq2 (by show b1 + 1 + 1 + 1 ≤ wr.heap.size; omega) hown5 hgrow
      have f3 := hg3.free 1
      have HO5 := Lib.hid ho5; have HG5 := Lib.hid hg3; have HB5 := Lib.hid hbw5; have HGa := Lib.hid hg1; have HGb := Lib.hid hg2
      clear ho5 hg1 hg2 hg3 hbw5 hbw2 ho2 hq2 hown5 hgrow hat hown1 hb1 hb1' x3 x1 xc y3 y1 yc z3 z1 hcell hne hn0 hal
      refine hK.out _ _ ⟨u3, u1, uc⟩ (fun hHeld => ?_)
      clear hK K
      refine WT.takeD (i := 10) (d := some 27) (v := ?vo10) rfl rfl (by decide) (by kernel_rfl) (by kernel_rfl) (fun _ _ _ h => h) (Or.inl ⟨by rfl, ?ho10⟩) (by assumption) ?ro10
      case ho10 => (intro w hSw; (try dsimp only at hSw); go_simp; (try with_reducible rfl))
      try simp only [Act.put, List.setIfInBounds_toArray, List.set_cons_zero, List.set_cons_succ]
      refine WT.last rfl (by kernel_rfl) (by kernel_rfl) (fun K hK => ?_)
      go_simp
      refine hK.out _ _ ?_
      clear hK K
      refine NoPanic.normal ?_
      have hl5 := HG5.out.lt
      rw [hlen] at HO5
      go_wp2_with fail
      refine ⟨⟨k + 1, by omega, by go_num, by simpa using hl5, HB5.out.setCell (by show w.heap.size ≤ b1 + 1 + 1; omega) _, HGa.out.far ⟨b1 + 1 + 1, 1, none⟩ (by show b1 ≠ b1 + 1 + 1; omega) _, HGb.out.far ⟨b1 + 1 + 1, 1, none⟩ (by show b1 + 1 ≠ b1 + 1 + 1; omega) _, _, ls ++ [⟨B, kc, r.l⟩], ?_, HO5.out.set (by show b1 + 1 + 1 < b1 + 1 + 1 + 1; omega) _, by simp [hlen], ?_, HSE2.out⟩, ?_⟩
      · have := HG5.out.set 1 (.slice (some ⟨gg, 0, none⟩) (ls.length + 1) cap); simp [hlen] at this; exact this
      · rw [List.map_append, HMAP.out, List.take_succ_eq_append_getElem hlt, List.map_append, ← HRE.out]; rfl
      · simp [intOf]; omega
    · obtain rfl : k = rows.length := by omega
      have hm := ho.out.2.2.1
      have HSEP := Lib.hid ho.out.2.2.2
      rw [List.take_length] at hm
      have hlr := HR.out.len
      simp only at hlr
      obtain ⟨A9, c9, rfl, hrd⟩ := ho.out.1.md (by rw [ho.out.2.1]; exact hlr) (fun r hr => by
        have : r.l ∈ rows.map LL.l := by rw [← hm]; exact List.mem_map_of_mem hr
        obtain ⟨q, hq, e⟩ := List.mem_map.1 this
        rw [← e]; exact HR.out.rl q hq) kd af
      have q0 := g3.cell 0; have q1 := g3.cell 1; have q2 := g3.cell 2
      have p0 := g2.cell 0; have p1 := g2.cell 1; have p2 := g2.cell 2; have f0 := g2.free 0; have f1 := g2.free 1; have f2 := g2.free 2
      simp at q0 q1 q2 p0 p1 p2
      have HM := Lib.hid hm; have HG2' := Lib.hid g2; have HW := Lib.hid hw; have HO := Lib.hid ho.out.1; have HLE := Lib.hid ho.out.2.1
      clear ho hm hrd g1 g2 g3 hw
      go_wp2_with fail
      have m2 := ((HG2'.out.set 0 (.int .i64 kd)).set 1 (.slice A9 ls.length c9)).set 2 (.int .i64 af)
      have o2 := ((HO.out.set (p := ⟨b1 + 1, 0, none⟩) (by show b1 + 1 < _; omega) (.int .i64 kd)).set (p := ⟨b1 + 1, 1, none⟩) (by show b1 + 1 < _; omega) (.slice A9 ls.length c9)).set (p := ⟨b1 + 1, 2, none⟩) (by show b1 + 1 < _; omega) (.int .i64 af)
      have w2 := ((HW.out.setCell (p := ⟨b1 + 1, 0, none⟩) (by show w.heap.size ≤ b1 + 1; omega) (.int .i64 kd)).setCell (p := ⟨b1 + 1, 1, none⟩) (by show w.heap.size ≤ b1 + 1; omega) (.slice A9 ls.length c9)).setCell (p := ⟨b1 + 1, 2, none⟩) (by show w.heap.size ≤ b1 + 1; omega) (.int .i64 af)
      simp at m2
      generalize ((wr.setCell ⟨b1 + 1, 0, none⟩ (.int .i64 kd)).setCell ⟨b1 + 1, 1, none⟩ (.slice A9 ls.length c9)).setCell ⟨b1 + 1, 2, none⟩ (.int .i64 af) = W9 at m2 o2 w2 ⊢
      obtain ⟨A8, c8, e8, hrd⟩ := o2.md (by rw [HLE.out]; exact hlr) (fun r hr => by
        have : r.l ∈ rows.map LL.l := by rw [← HM.out]; exact List.mem_map_of_mem hr
        obtain ⟨q, hq, e⟩ := List.mem_map.1 this
        rw [← e]; exact HR.out.rl q hq) kd af
      simp at e8
      obtain ⟨rfl, rfl⟩ := e8
      have t0 := m2.cell 0; have t1 := m2.cell 1; have t2 := m2.cell 2
      simp at t0 t1 t2
      exact bodyPost_ret (v := .agg #[.int .i64 kd, .slice A9 ls.length c9, .int .i64 af]) (by simp [results, Try.results14, go_sem, t0, t1, t2]) rfl ⟨⟨kd, A9, c9, ls, af⟩, rfl, by unfold Md.m; simp only [HM.out], hrd, o2.hi (by omega), w2, o2.low (by omega), HSEP.out⟩
theorem lownH_any (x : Md) (w : World) (hr : x.reads w w.heap.size) (hn : ∀ r ∈ x.rows, r.a = none → r.c = 0) :
    Calls Try.prog 14 #[.agg #[.int .i64 x.kind, .slice x.a x.rows.length x.c, .int .i64 x.after]] w fun e w' => ∃ y : Md, e = .returned (.agg #[.int .i64 y.kind, .slice y.a y.rows.length y.c, .int .i64 y.after]) ∧ y.m = x.m ∧ y.reads w' w'.heap.size ∧ MdHi w.heap.size y ∧ Below w.heap.size w w' := (lownH0_any x.kind x.a x.c x.rows x.after w hr hn).mono fun _ _ ⟨y, h1, h2, h3, h4, h5, _⟩ => ⟨y, h1, h2, h3, h4, h5⟩
theorem lownS_any (x : Md) (w : World) (hr : x.reads w w.heap.size) (hn : ∀ r ∈ x.rows, r.a = none → r.c = 0) :
    Calls Try.prog 14 #[.agg #[.int .i64 x.kind, .slice x.a x.rows.length x.c, .int .i64 x.after]] w fun e w' => ∃ y : Md, e = .returned (.agg #[.int .i64 y.kind, .slice y.a y.rows.length y.c, .int .i64 y.after]) ∧ y.m = x.m ∧ y.reads w' w'.heap.size ∧ MdHi w.heap.size y ∧ Below w.heap.size w w' ∧ OwR w' w.heap.size (.slice y.a y.rows.length y.c) y.rows ∧ SepR y.rows := lownH0_any x.kind x.a x.c x.rows x.after w hr hn
/-- copies that are gathered in a row of one's own -/
structure RlI (w : World) (v : Value) (ys : List Md) (W : World) : Prop where
  own : W.ownsRow w.heap.size 25 3 v ys.length (flat Md.cells ys)
  each : ∀ y ∈ ys, y.reads W W.heap.size
  av : ∀ y ∈ ys, MdAv (fun r => v.ownBlock = some r) y
  hw : Below w.heap.size w W
theorem RlI.below {w : World} {v : Value} {ys : List Md} {W W' : World} (h : RlI w v ys W) (hb : Below W.heap.size W W') : RlI w v ys W' :=
  ⟨own_stp h.own hb, fun y hy => ((h.each y hy).below hb).more hb.size, h.av, h.hw.trans (hb.mono h.hw.size)⟩
/-- one more: it was made at W0, and lies in W -/
theorem RlI.app {w : World} {v v' : Value} {ys : List Md} {y : Md} {W W' : World} {lo : Nat} (h : RlI w v ys W) (hy : y.reads W W.heap.size) (hlo : MdHi lo y) (hv : ∀ r, v.ownBlock = some r → r < lo) (hg : W.grownBy W' v.ownBlock)
    (hown : W'.ownsRow w.heap.size 25 3 v' (ys.length + 1) (flat Md.cells ys ++ y.cells)) (hat : v'.ownBlock = v.ownBlock ∨ v'.ownBlock = some W.heap.size) : RlI w v' (ys ++ [y]) W' := by
  have hp : ∀ r, v'.ownBlock = some r → v.ownBlock = some r ∨ W.heap.size ≤ r := fun r hr => by
    rcases hat with e | e
    · exact .inl (e.symm.trans hr)
    · rw [e] at hr; exact .inr (by cases hr; exact Nat.le_refl _)
  have hya : MdAv (fun r => v.ownBlock = some r) y := hlo.av hv
  refine ⟨by rw [List.length_append, flat_snoc]; exact hown, fun x hx => ?_, fun x hx => ?_, h.hw.grown hg h.hw.size (fun g hg => (h.own.lt g hg).1)⟩
  · rcases List.mem_append.1 hx with hx | hx
    · exact (h.each x hx).grownN hg (h.av x hx) fun r hr => hr
    · rw [List.mem_singleton.1 hx]; exact hy.grownN hg hya fun r hr => hr
  · rcases List.mem_append.1 hx with hx | hx
    · exact (h.av x hx).more (h.each x hx) hp
    · rw [List.mem_singleton.1 hx]; exact hya.more hy hp
theorem RlI.mds {w : World} {v : Value} {ys : List Md} {W : World} (h : RlI w v ys W) : ∃ A c, v = .slice A ys.length c ∧ Mds W W.heap.size A ys := by
  obtain ⟨A, c, e, hs⟩ := Sl.of_own h.own
  exact ⟨A, c, e, hs, h.each⟩
end Go.Proofs.Ytiikkcifdhcejaa
namespace Go.Proofs.Ytiikkcifdhcejaa

/-- digits as integers -/
def dI (l : List Nat) : List Int := l.map fun (x : Nat) => (x : Int)
theorem dI_len (l : List Nat) : (dI l).length = l.length := by simp [dI]
theorem dI_get {l : List Nat} {k : Nat} (hk : k < l.length) : (dI l)[k]'(by rw [dI_len]; exact hk) = ((l.getD k 0 : Nat) : Int) := by simp [dI, hk]
/-- a product by a small number: i digits, and what is carried -/
structure MulGo (b n : Nat) (l : List Nat) (i : Nat) (o : List Nat) (c : Nat) : Prop where
  len : o.length = i
  dig : ∀ w ∈ o, w < b
  car : c ≤ n
  val : valD b o + b ^ i * c = valD b (l.take i) * n
theorem MulGo.start (b n : Nat) (l : List Nat) : MulGo b n l 0 [] 0 := ⟨rfl, fun w h => (by cases h), Nat.zero_le _, (by simp [valD])⟩
theorem carry_step {b o i v c : Nat} {r d : Nat} (e : b * d + r = c) (hv : o + b ^ i * c = v) : o + b ^ i * r + b ^ (i + 1) * d = v := by
  rw [Nat.pow_succ, ← hv, ← e, Nat.mul_add, ← Nat.mul_assoc]; omega
theorem MulGo.step {b n i c : Nat} {l o : List Nat} (h : MulGo b n l i o c) (hb : 0 < b) (hl : ∀ w ∈ l, w < b) (hi : i < l.length) :
    c + l.getD i 0 * n ≤ b * n ∧ MulGo b n l (i + 1) (o ++ [(c + l.getD i 0 * n) % b]) ((c + l.getD i 0 * n) / b) := by
  have hg : l.getD i 0 = l[i] := by simp [hi]
  have hlt := hl _ (List.getElem_mem hi)
  rw [← hg] at hlt
  have hcar := h.car
  have hval := h.val
  have hlen := h.len
  have h1 : l.getD i 0 * n + n ≤ b * n := by
    have := Nat.mul_le_mul_right n (show l.getD i 0 + 1 ≤ b from hlt)
    rw [Nat.add_mul, Nat.one_mul] at this; exact this
  have e := Nat.div_add_mod (c + l.getD i 0 * n) b
  have hle : c + l.getD i 0 * n ≤ b * n := by omega
  refine ⟨hle, by simp [hlen], fun w hw => ?_, ?_, ?_⟩
  · rcases List.mem_append.1 hw with hw | hw
    · exact h.dig w hw
    · rw [List.mem_singleton.1 hw]; exact Nat.mod_lt _ hb
  · have := Nat.div_le_div_right (c := b) hle
    rwa [Nat.mul_div_cancel_left _ hb] at this
  · rw [valD_snoc, hlen, List.take_succ_eq_append_getElem hi, valD_snoc, List.length_take, Nat.min_eq_left (by omega), ← hg, Nat.add_mul, ← hval]
    generalize (c + l.getD i 0 * n) / b = d at *
    generalize (c + l.getD i 0 * n) % b = r at *
    refine carry_step e ?_
    rw [Nat.mul_add, Nat.mul_assoc]; omega
theorem MulGo.more {b n i c : Nat} {l o : List Nat} (h : MulGo b n l i o c) (hb : 0 < b) (hi : l.length ≤ i) : MulGo b n l (i + 1) (o ++ [c % b]) (c / b) := by
  have hcar := h.car
  have hval := h.val
  have hlen := h.len
  refine ⟨by simp [hlen], fun w hw => ?_, Nat.le_trans (Nat.div_le_self _ _) hcar, ?_⟩
  · rcases List.mem_append.1 hw with hw | hw
    · exact h.dig w hw
    · rw [List.mem_singleton.1 hw]; exact Nat.mod_lt _ hb
  · have e := Nat.div_add_mod c b
    rw [valD_snoc, hlen, List.take_of_length_le (by omega)]
    rw [List.take_of_length_le hi] at hval
    generalize c / b = d at *
    generalize c % b = r at *
    exact carry_step e hval
theorem MulGo.end_ {b n i : Nat} {l o : List Nat} (h : MulGo b n l i o 0) (hi : l.length ≤ i) : valD b o = valD b l * n := by
  have := h.val
  rw [List.take_of_length_le hi] at this
  simpa using this
/-- how long the digits of a number are -/
theorem Rep.len_le {b k x : Nat} {l : List Nat} (h : Rep b l x) (hx : x < b ^ k) : l.length ≤ k := by
  rcases List.eq_nil_or_concat l with rfl | ⟨l', z, rfl⟩
  · simp
  · rw [List.concat_eq_append] at h ⊢
    have h1 := h.val
    rw [valD_snoc] at h1
    have h2 : z ≠ 0 := h.top z (by simp)
    have hz : z < b := h.dig z (by simp)
    rcases Nat.lt_or_ge k (l' ++ [z]).length with h3 | h3
    · rw [List.length_append, List.length_singleton] at h3
      have h4 : b ^ k ≤ b ^ l'.length := Nat.pow_le_pow_right (by omega) (by omega)
      have h5 : b ^ l'.length * 1 ≤ b ^ l'.length * z := Nat.mul_le_mul_left _ (by omega)
      omega
    · exact h3
theorem Rep.lt {b x : Nat} {l : List Nat} (h : Rep b l x) : x < b ^ l.length := by rw [← h.val]; exact valD_lt h.dig
/-- a product by a small number has few digits more -/
theorem Rep.mul_len {x n : Nat} {l m : List Nat} (h : Rep 10000 l x) (hm : Rep 10000 m (x * n)) (hn : n ≤ 100000) : m.length ≤ l.length + 2 := by
  refine hm.len_le ?_
  have h1 := h.lt
  rw [Nat.pow_add]
  have h2 : x * n ≤ x * 100000 := Nat.mul_le_mul_left _ hn
  generalize 10000 ^ l.length = q at *
  omega
/-- the product of a list -/
def prodI : List Int → Nat
  | [] => 1
  | w :: l => w.toNat * prodI l
theorem prodI_snoc (w : Int) : ∀ l : List Int, prodI (l ++ [w]) = prodI l * w.toNat
  | [] => by simp [prodI]
  | x :: l => by simp only [List.cons_append, prodI, prodI_snoc w l, Nat.mul_assoc]
theorem prodI_append (m : List Int) : ∀ l : List Int, prodI (l ++ m) = prodI l * prodI m
  | [] => by simp [prodI]
  | x :: l => by simp only [List.cons_append, prodI, prodI_append m l, Nat.mul_assoc]
theorem prodI_take {l : List Int} {i : Nat} (hi : i < l.length) : prodI (l.take (i + 1)) = prodI (l.take i) * l[i].toNat := by
  rw [List.take_succ_eq_append_getElem hi, prodI_snoc]
/-- the weights and the sums of all casts -/
def ovL (m : HMd) (l : List Int) : List Int := (List.range l.length).map fun i => (wtI m l i).1
def unL (m : HMd) (l : List Int) : List Int := (List.range l.length).map fun i => (wtI m l i).2
theorem ovL_len (m : HMd) (l : List Int) : (ovL m l).length = l.length := by simp [ovL]
theorem unL_len (m : HMd) (l : List Int) : (unL m l).length = l.length := by simp [unL]
theorem prod_ov (m : HMd) (l : List Int) : ∀ k, k ≤ l.length → prodI ((ovL m l).take k) = ovN m l k
  | 0, _ => rfl
  | k + 1, h => by
    rw [prodI_take (by rw [ovL_len]; omega), prod_ov m l k (by omega)]
    simp [ovL, ovN]
theorem prod_un (m : HMd) (l : List Int) : ∀ k, k ≤ l.length → prodI ((unL m l).take k) = unN m l k
  | 0, _ => rfl
  | k + 1, h => by
    rw [prodI_take (by rw [unL_len]; omega), prod_un m l k (by omega)]
    simp [unL, unN]
theorem prod_ovL (m : HMd) (l : List Int) : prodI (ovL m l) = ovN m l l.length := by
  have := prod_ov m l l.length (Nat.le_refl _)
  rwa [List.take_of_length_le (by rw [ovL_len]; exact Nat.le_refl _)] at this
theorem prod_unL (m : HMd) (l : List Int) : prodI (unL m l) = unN m l l.length := by
  have := prod_un m l l.length (Nat.le_refl _)
  rwa [List.take_of_length_le (by rw [unL_len]; exact Nat.le_refl _)] at this
end Go.Proofs.Ytiikkcifdhcejaa
namespace Go.Proofs.Ytiikkcifdhcejaa

/-- how far a new one goes ahead -/
def insAt (f : Nat → Bool) : Nat → Nat
  | 0 => 0
  | k + 1 => if f k = true then insAt f k else k + 1
theorem insAt_le (f : Nat → Bool) : ∀ k, insAt f k ≤ k
  | 0 => Nat.le_refl _
  | k + 1 => by
    simp only [insAt]
    split
    · have := insAt_le f k; omega
    · exact Nat.le_refl _
/-- a new one is put behind all that are not worse -/
def insO (c : Nat → Nat → Bool) (out : List Nat) (x : Nat) : List Nat := out.take (insAt (fun j => c (out.getD j 0) x) out.length) ++ x :: out.drop (insAt (fun j => c (out.getD j 0) x) out.length)
def rankL (c : Nat → Nat → Bool) : Nat → List Nat
  | 0 => []
  | i + 1 => insO c (rankL c i) i
theorem insO_len (c : Nat → Nat → Bool) (out : List Nat) (x : Nat) : (insO c out x).length = out.length + 1 := by
  unfold insO
  have := insAt_le (fun j => c (out.getD j 0) x) out.length
  rw [List.length_append, List.length_take, List.length_cons, List.length_drop]; omega
theorem rankL_len (c : Nat → Nat → Bool) : ∀ i, (rankL c i).length = i
  | 0 => rfl
  | i + 1 => by simp only [rankL]; rw [insO_len, rankL_len c i]
theorem insO_mem {c : Nat → Nat → Bool} {out : List Nat} {x y : Nat} (h : y ∈ insO c out x) : y = x ∨ y ∈ out := by
  unfold insO at h
  rcases List.mem_append.1 h with h | h
  · exact .inr (List.mem_of_mem_take h)
  · rcases List.mem_cons.1 h with h | h
    · exact .inl h
    · exact .inr (List.mem_of_mem_drop h)
theorem rankL_lt (c : Nat → Nat → Bool) : ∀ i, ∀ y ∈ rankL c i, y < i
  | 0, y, h => by cases h
  | i + 1, y, h => by
    rcases insO_mem h with h | h
    · omega
    · have := rankL_lt c i y h; omega
/-- the list while a new one goes ahead: it stands at place j -/
def midL (out : List Nat) (x j : Nat) : List Nat := out.take j ++ x :: out.drop j
theorem midL_len {out : List Nat} {x j : Nat} (hj : j ≤ out.length) : (midL out x j).length = out.length + 1 := by
  unfold midL; rw [List.length_append, List.length_take, List.length_cons, List.length_drop]; omega
theorem midL_at {out : List Nat} {x j : Nat} (hj : j ≤ out.length) : (midL out x j).getD j 0 = x := by
  unfold midL
  rw [List.getD_eq_getElem?_getD, List.getElem?_append_right (by rw [List.length_take]; omega), List.length_take, Nat.min_eq_left hj, Nat.sub_self]; rfl
theorem midL_before {out : List Nat} {x j : Nat} (hj : j < out.length) : (midL out x (j + 1)).getD j 0 = out.getD j 0 := by
  unfold midL
  rw [List.getD_eq_getElem?_getD, List.getElem?_append_left (by rw [List.length_take]; omega), List.getElem?_take, if_pos (by omega), ← List.getD_eq_getElem?_getD]
/-- exchanged with the one ahead -/
theorem midL_swap {out : List Nat} {x j : Nat} (hj : j < out.length) : ((midL out x (j + 1)).set (j + 1) (out.getD j 0)).set j x = midL out x j := by
  have hg : out.getD j 0 = out[j] := by simp [hj]
  apply List.ext_getElem?
  intro i
  have hl1 : (midL out x (j + 1)).length = out.length + 1 := midL_len (by omega)
  have hl0 : (midL out x j).length = out.length + 1 := midL_len (by omega)
  rw [List.getElem?_set, List.getElem?_set]
  by_cases e1 : j = i
  · subst e1
    rw [if_pos rfl, if_pos (by rw [List.length_set, hl1]; omega)]
    unfold midL
    rw [List.getElem?_append_right (by rw [List.length_take]; omega), List.length_take, Nat.min_eq_left (by omega), Nat.sub_self]; rfl
  · rw [if_neg e1]
    by_cases e2 : j + 1 = i
    · subst e2
      rw [if_pos rfl, if_pos (by rw [hl1]; omega)]
      unfold midL
      rw [List.getElem?_append_right (by rw [List.length_take]; omega), List.length_take, Nat.min_eq_left (by omega), show j + 1 - j = 1 by omega, List.getElem?_cons_succ, List.getElem?_drop, Nat.add_zero, hg, List.getElem?_eq_getElem hj]
    · rw [if_neg e2]
      unfold midL
      rcases Nat.lt_or_ge i j with h | h
      · rw [List.getElem?_append_left (by rw [List.length_take]; omega), List.getElem?_append_left (by rw [List.length_take]; omega), List.getElem?_take, List.getElem?_take, if_pos (by omega), if_pos (by omega)]
      · rw [List.getElem?_append_right (by rw [List.length_take]; omega), List.getElem?_append_right (by rw [List.length_take]; omega), List.length_take, List.length_take, Nat.min_eq_left (by omega), Nat.min_eq_left (by omega)]
        obtain ⟨d, rfl⟩ : ∃ d, i = j + 1 + 1 + d := ⟨i - (j + 1 + 1), by omega⟩
        rw [show j + 1 + 1 + d - (j + 1) = d + 1 by omega, show j + 1 + 1 + d - j = (d + 1) + 1 by omega, List.getElem?_cons_succ, List.getElem?_cons_succ, List.getElem?_drop, List.getElem?_drop]
        congr 1
        omega
theorem insO_mid (c : Nat → Nat → Bool) (out : List Nat) (x : Nat) : insO c out x = midL out x (insAt (fun j => c (out.getD j 0) x) out.length) := rfl
/-- the order of the first i, then the others -/
def ordL (c : Nat → Nat → Bool) (n i : Nat) : List Nat := rankL c i ++ (List.range n).drop i
theorem ordL_len {c : Nat → Nat → Bool} {n i : Nat} (hi : i ≤ n) : (ordL c n i).length = n := by
  unfold ordL; rw [List.length_append, rankL_len, List.length_drop, List.length_range]; omega
theorem ordL_zero (c : Nat → Nat → Bool) (n : Nat) : ordL c n 0 = List.range n := by simp [ordL, rankL]
theorem ordL_end (c : Nat → Nat → Bool) (n : Nat) : ordL c n n = rankL c n := by
  unfold ordL; rw [List.drop_eq_nil_of_le (by rw [List.length_range]; exact Nat.le_refl _), List.append_nil]
theorem ordL_mid {c : Nat → Nat → Bool} {n i : Nat} (hi : i < n) : ordL c n i = midL (rankL c i) i i ++ (List.range n).drop (i + 1) := by
  unfold ordL midL
  have h1 : (rankL c i).take i = rankL c i := List.take_of_length_le (by rw [rankL_len]; exact Nat.le_refl _)
  have h2 : (rankL c i).drop i = [] := List.drop_eq_nil_of_le (by rw [rankL_len]; exact Nat.le_refl _)
  rw [h1, h2, List.drop_eq_getElem_cons (by rw [List.length_range]; exact hi)]
  simp
theorem ordL_succ {c : Nat → Nat → Bool} {n i : Nat} : midL (rankL c i) i (insAt (fun j => c ((rankL c i).getD j 0) i) i) ++ (List.range n).drop (i + 1) = ordL c n (i + 1) := by
  unfold ordL
  simp only [rankL]
  rw [insO_mid, rankL_len]
end Go.Proofs.Ytiikkcifdhcejaa

/- Helpers of the laws: copies of lists, same. -/
import Derived.Test.YtidlmbajpbbilaaRfH
import Derived.Laws.AppendOwnNone
namespace Go.Proofs.Ytidlmbajpbbilaa
open Go.RowKit

theorem infoU64 : (Try.prog.info? 63).map (fun i => (i.zero, i.size, i.bytes)) = some (some (.int .u64 0), 1, 8) := by kernel_rfl
theorem infoTest : (Try.prog.info? 103).map (fun i => (i.zero, i.size, i.bytes)) = some (some (.agg #[.int .i64 0, .int .i64 0, .int .i64 0, .int .u64 0]), 4, 32) := by kernel_rfl
theorem uSets : Try.prog.underlying 25 = some (.slice 63) := by kernel_rfl
theorem uTests : Try.prog.underlying 52 = some (.slice 103) := by kernel_rfl
set_option maxRecDepth 100000 in
theorem lints_any (A : Option Addr) (c : Nat) (l : List Int) (w : World) (hl : l.length ≤ 1000000) (hn : A = none → c = 0) (hok : ∀ u ∈ flat intCell l, u.oneCell' = true) (hr : Sl intCell 1 w w.heap.size A l) :
    Calls Try.prog 38 #[.slice A l.length c] w (RetOwn 3 intCell 1 l w) := by
  obtain ⟨i0, hi, iz0, iz1, iz2⟩ := info_parts infoInt
  have hfl : (flat intCell l).length = l.length * 1 := hr.1
  cases A with
  | none =>
    obtain rfl : c = 0 := hn rfl
    have h0 : l.length = 0 := by
      rcases Nat.eq_zero_or_pos l.length with h | h
      · exact h
      · obtain ⟨b, o, e, _⟩ := hr.2 h; cases e
    have hl0 : l = [] := List.eq_nil_of_length_eq_zero h0
    subst hl0
    have hown := World.ownsRow_made (e := 3) (size := 1) w #[] 0 (base := w.heap.size) (Nat.le_refl _) (by simp) (by simp)
    have HO := Lib.hid hown
    clear hown hr hfl
    go_enter Try.func38, Try.ntmps38
    go_wp2_with (at_builtin; refine wpList_append_own_none rfl _ _ 28 rfl w.heap.size 3 i0 1 uInts hi _ _ _ rfl HO.out rfl ?_)
    go_ret
    exact ⟨_, rfl, by simpa [flat] using HO.out, by (repeat (first | exact Below.refl _ _ | assumption | (refine Below.alloc ?_ (by first | omega | (simp; omega) | (simp; done)) _) | (refine Below.setCell ?_ (by first | omega | (simp; omega) | (simp; done)) _) | (refine Below.drew ?_) | (refine belowN ?_ _) | (refine Below.trans ?_ (Below.mono ‹Below _ _ _› (by first | omega | (simp; omega) | (simp; done))))))⟩
  | some ad =>
    have hcell : ∀ (j : Nat) (u : Value), (flat intCell l)[j]? = some u → (w.alloc (.cells #[] 3)).cell? (ad.add j) = some u := fun j u hu => by
      have hpos : 0 < l.length := by
        rcases Nat.eq_zero_or_pos l.length with h | h
        · have : l = [] := List.eq_nil_of_length_eq_zero h
          subst this; simp [flat] at hu
        · exact h
      obtain ⟨b, o, e, hb, hc⟩ := hr.2 hpos
      cases e
      have h1 := hc j u hu
      rw [Go.WideShapes.add_plain, ((Below.refl w.heap.size w).alloc (Nat.le_refl _) _).cell (p := ⟨b, o + j, none⟩) hb]
      exact h1
    have hown := World.ownsRow_made (e := 3) (size := 1) w #[] 0 (base := w.heap.size) (Nat.le_refl _) (by simp) (by simp)
    have HO := Lib.hid hown; have HC := Lib.hid hcell; have HFL := Lib.hid hfl; have HOK := Lib.hid hok
    clear hown hcell hfl hr hok hn
    go_enter Try.func38, Try.ntmps38
    go_wp2_with (at_builtin; refine wpList_append_own _ rfl _ _ 28 rfl w.heap.size 3 i0 (.int .i64 0) 1 8 uInts hi iz0 iz1 iz2 rfl (by decide) _ _ _ rfl HO.out ad l.length c (flat intCell l) rfl HFL.out HC.out HOK.out (by unfold maxLen; omega) (by omega) (by simp) ?_; intro v' w1 hown1 hgrow _)
    have hb1 : Below w.heap.size w w1 := ((Below.refl _ _).alloc (Nat.le_refl _) _).grown hgrow (by simp) (fun g hg => by cases hg; exact Nat.le_refl _)
    have HO1 := Lib.hid hown1
    clear hown1 hgrow
    go_wp2
    go_ret
    exact ⟨_, rfl, by simpa using HO1.out, hb1⟩
set_option maxRecDepth 100000 in
theorem lsets_any (A : Option Addr) (c : Nat) (l : List Int) (w : World) (hl : l.length ≤ 1000000) (hn : A = none → c = 0) (hok : ∀ u ∈ flat setCell1 l, u.oneCell' = true) (hr : Sl setCell1 1 w w.heap.size A l) :
    Calls Try.prog 18 #[.slice A l.length c] w (RetOwn 63 setCell1 1 l w) := by
  obtain ⟨i0, hi, iz0, iz1, iz2⟩ := info_parts infoU64
  have hfl : (flat setCell1 l).length = l.length * 1 := hr.1
  cases A with
  | none =>
    obtain rfl : c = 0 := hn rfl
    have h0 : l.length = 0 := by
      rcases Nat.eq_zero_or_pos l.length with h | h
      · exact h
      · obtain ⟨b, o, e, _⟩ := hr.2 h; cases e
    have hl0 : l = [] := List.eq_nil_of_length_eq_zero h0
    subst hl0
    have hown := World.ownsRow_made (e := 63) (size := 1) w #[] 0 (base := w.heap.size) (Nat.le_refl _) (by simp) (by simp)
    have HO := Lib.hid hown
    clear hown hr hfl
    go_enter Try.func18, Try.ntmps18
    go_wp2_with (at_builtin; refine wpList_append_own_none rfl _ _ 25 rfl w.heap.size 63 i0 1 uSets hi _ _ _ rfl HO.out rfl ?_)
    go_ret
    exact ⟨_, rfl, by simpa [flat] using HO.out, by (repeat (first | exact Below.refl _ _ | assumption | (refine Below.alloc ?_ (by first | omega | (simp; omega) | (simp; done)) _) | (refine Below.setCell ?_ (by first | omega | (simp; omega) | (simp; done)) _) | (refine Below.drew ?_) | (refine belowN ?_ _) | (refine Below.trans ?_ (Below.mono ‹Below _ _ _› (by first | omega | (simp; omega) | (simp; done))))))⟩
  | some ad =>
    have hcell : ∀ (j : Nat) (u : Value), (flat setCell1 l)[j]? = some u → (w.alloc (.cells #[] 63)).cell? (ad.add j) = some u := fun j u hu => by
      have hpos : 0 < l.length := by
        rcases Nat.eq_zero_or_pos l.length with h | h
        · have : l = [] := List.eq_nil_of_length_eq_zero h
          subst this; simp [flat] at hu
        · exact h
      obtain ⟨b, o, e, hb, hc⟩ := hr.2 hpos
      cases e
      have h1 := hc j u hu
      rw [Go.WideShapes.add_plain, ((Below.refl w.heap.size w).alloc (Nat.le_refl _) _).cell (p := ⟨b, o + j, none⟩) hb]
      exact h1
    have hown := World.ownsRow_made (e := 63) (size := 1) w #[] 0 (base := w.heap.size) (Nat.le_refl _) (by simp) (by simp)
    have HO := Lib.hid hown; have HC := Lib.hid hcell; have HFL := Lib.hid hfl; have HOK := Lib.hid hok
    clear hown hcell hfl hr hok hn
    go_enter Try.func18, Try.ntmps18
    go_wp2_with (at_builtin; refine wpList_append_own _ rfl _ _ 25 rfl w.heap.size 63 i0 (.int .u64 0) 1 8 uSets hi iz0 iz1 iz2 rfl (by decide) _ _ _ rfl HO.out ad l.length c (flat setCell1 l) rfl HFL.out HC.out HOK.out (by unfold maxLen; omega) (by omega) (by simp) ?_; intro v' w1 hown1 hgrow _)
    have hb1 : Below w.heap.size w w1 := ((Below.refl _ _).alloc (Nat.le_refl _) _).grown hgrow (by simp) (fun g hg => by cases hg; exact Nat.le_refl _)
    have HO1 := Lib.hid hown1
    clear hown1 hgrow
    go_wp2
    go_ret
    exact ⟨_, rfl, by simpa using HO1.out, hb1⟩
set_option maxRecDepth 100000 in
theorem ltests_any (A : Option Addr) (c : Nat) (l : List Tst) (w : World) (hl : l.length ≤ 1000000) (hn : A = none → c = 0) (hok : ∀ u ∈ flat Tst.cells l, u.oneCell' = true) (hr : Sl Tst.cells 4 w w.heap.size A l) :
    Calls Try.prog 37 #[.slice A l.length c] w (RetOwn 103 Tst.cells 4 l w) := by
  obtain ⟨i0, hi, iz0, iz1, iz2⟩ := info_parts infoTest
  have hfl : (flat Tst.cells l).length = l.length * 4 := hr.1
  cases A with
  | none =>
    obtain rfl : c = 0 := hn rfl
    have h0 : l.length = 0 := by
      rcases Nat.eq_zero_or_pos l.length with h | h
      · exact h
      · obtain ⟨b, o, e, _⟩ := hr.2 h; cases e
    have hl0 : l = [] := List.eq_nil_of_length_eq_zero h0
    subst hl0
    have hown := World.ownsRow_made (e := 103) (size := 4) w #[] 0 (base := w.heap.size) (Nat.le_refl _) (by simp) (by simp)
    have HO := Lib.hid hown
    clear hown hr hfl
    go_enter Try.func37, Try.ntmps37
    go_wp2_with (at_builtin; refine wpList_append_own_none rfl _ _ 52 rfl w.heap.size 103 i0 4 uTests hi _ _ _ rfl HO.out rfl ?_)
    go_ret
    exact ⟨_, rfl, by simpa [flat] using HO.out, by (repeat (first | exact Below.refl _ _ | assumption | (refine Below.alloc ?_ (by first | omega | (simp; omega) | (simp; done)) _) | (refine Below.setCell ?_ (by first | omega | (simp; omega) | (simp; done)) _) | (refine Below.drew ?_) | (refine belowN ?_ _) | (refine Below.trans ?_ (Below.mono ‹Below _ _ _› (by first | omega | (simp; omega) | (simp; done))))))⟩
  | some ad =>
    have hcell : ∀ (j : Nat) (u : Value), (flat Tst.cells l)[j]? = some u → (w.alloc (.cells #[] 103)).cell? (ad.add j) = some u := fun j u hu => by
      have hpos : 0 < l.length := by
        rcases Nat.eq_zero_or_pos l.length with h | h
        · have : l = [] := List.eq_nil_of_length_eq_zero h
          subst this; simp [flat] at hu
        · exact h
      obtain ⟨b, o, e, hb, hc⟩ := hr.2 hpos
      cases e
      have h1 := hc j u hu
      rw [Go.WideShapes.add_plain, ((Below.refl w.heap.size w).alloc (Nat.le_refl _) _).cell (p := ⟨b, o + j, none⟩) hb]
      exact h1
    have hown := World.ownsRow_made (e := 103) (size := 4) w #[] 0 (base := w.heap.size) (Nat.le_refl _) (by simp) (by simp)
    have HO := Lib.hid hown; have HC := Lib.hid hcell; have HFL := Lib.hid hfl; have HOK := Lib.hid hok
    clear hown hcell hfl hr hok hn
    go_enter Try.func37, Try.ntmps37
    go_wp2_with (at_builtin; refine wpList_append_own _ rfl _ _ 52 rfl w.heap.size 103 i0 (.agg #[.int .i64 0, .int .i64 0, .int .i64 0, .int .u64 0]) 4 32 uTests hi iz0 iz1 iz2 rfl (by decide) _ _ _ rfl HO.out ad l.length c (flat Tst.cells l) rfl HFL.out HC.out HOK.out (by unfold maxLen; omega) (by omega) (by simp) ?_; intro v' w1 hown1 hgrow _)
    have hb1 : Below w.heap.size w w1 := ((Below.refl _ _).alloc (Nat.le_refl _) _).grown hgrow (by simp) (fun g hg => by cases hg; exact Nat.le_refl _)
    have HO1 := Lib.hid hown1
    clear hown1 hgrow
    go_wp2
    go_ret
    exact ⟨_, rfl, by simpa using HO1.out, hb1⟩

theorem eq_drop (a b : List Int) (k : Nat) (h : k < a.length) (h' : k < b.length) : (a.drop k == b.drop k) = (a[k] == b[k] && a.drop (k + 1) == b.drop (k + 1)) := by
  rw [List.drop_eq_getElem_cons h, List.drop_eq_getElem_cons h']; rfl
set_option maxRecDepth 100000 in
set_option maxHeartbeats 1000000 in
theorem lsame_any (A A2 : Option Addr) (c c2 : Nat) (a b : List Int) (w : World) (hl : a.length ≤ 1000000) (hr : Sl intCell 1 w w.heap.size A a) (hr2 : Sl intCell 1 w w.heap.size A2 b) :
    Calls Try.prog 22 #[.slice A a.length c, .slice A2 b.length c2] w fun e w' => e = .returned (.bool (a == b)) ∧ Below w.heap.size w w' := by
  by_cases hlen : a.length = b.length
  · have hd : ((a.length : Int) != (b.length : Int)) = false := by simp [hlen]
    have HR := Lib.hid hr; have HR2 := Lib.hid hr2
    have hn1 : a.length ≤ b.length := by omega
    have hn2 : b.length ≤ a.length := by omega
    clear hr hr2 hlen
    go_enter Try.func22, Try.ntmps22
    go_wp2
    go_loopw [5] (fun i wr => ∃ k : Nat, k ≤ a.length ∧ i = .int .i64 k ∧ Below w.heap.size w wr ∧ Hid ((a == b) = (a.drop k == b.drop k))) (fun i _ => a.length - (intOf i).toNat)
    case atStart => exact ⟨0, by omega, rfl, Below.refl _ _, rfl⟩
    case round =>
      obtain ⟨k, hk, rfl, hb, HA⟩ := hrel
      have hsz := hb.size
      by_cases hlt : k < a.length
      · have hlt2 : k < b.length := by omega
        have HD := Lib.hid (eq_drop a b k hlt hlt2)
        obtain ⟨ab, ao, rfl, hblk, hcell⟩ := (HR.out.below hb).at_ (k := k) (fun _ => rfl) hlt
        obtain ⟨cb, co, rfl, hblk2, hcell2⟩ := (HR2.out.below hb).at_ (k := k) (fun _ => rfl) hlt2
        obtain ⟨x, hx⟩ : ∃ t, a[k] = t := ⟨_, rfl⟩
        obtain ⟨y, hy⟩ : ∃ t, b[k] = t := ⟨_, rfl⟩
        rw [hx] at hcell HD
        rw [hy] at hcell2 HD
        have c0 : wr.cell? ⟨ab, ao + k, none⟩ = some (.int .i64 x) := by have := hcell 0 _ rfl; simpa using this
        have c1 : wr.cell? ⟨cb, co + k, none⟩ = some (.int .i64 y) := by have := hcell2 0 _ rfl; simpa using this
        have hj0 : (0 : Int) ≤ (k : Int) := by omega
        have hj1 : (k : Int) < (a.length : Int) := by omega
        have hj2 : (k : Int) < (b.length : Int) := by omega
        clear hcell hcell2 hx hy
        by_cases f1 : (x == y) = true
        · have f2 : (x != y) = false := by simp only [beq_iff_eq] at f1; simp [f1]
          have HT : Hid ((a == b) = (a.drop (k + 1) == b.drop (k + 1))) := (by rw [HA.out, HD.out, f1]; rfl : (a == b) = (a.drop (k + 1) == b.drop (k + 1)))
          clear f1
          go_wp2
          (refine wp_region_ext (by kernel_rfl) (by kernel_rfl) ?_; (repeat (go_big_quiet_step((fail)))); with_reducible refine wpQuiet_nil ?_; intro w2 hw2; have hb1 := ext_below hw2; clear hw2)
          go_wp2
          go_roundw
          case rel => exact ⟨k + 1, by omega, by go_num, hb.trans (hb1.mono hsz), HT⟩
          case measure => simp [intOf]; omega
        · simp only [Bool.not_eq_true] at f1
          have f2 : (x != y) = true := by simpa using f1
          have HT : Hid ((a == b) = false) := (by rw [HA.out, HD.out, f1]; rfl : (a == b) = false)
          clear f1
          go_wp2
          (refine wp_region_ext (by kernel_rfl) (by kernel_rfl) ?_; (repeat (go_big_quiet_step((fail)))); with_reducible refine wpQuiet_nil ?_; intro w2 hw2; have hb1 := ext_below hw2; clear hw2)
          go_wp2
          go_ret
          exact ⟨ret_bool HT.out.symm, hb.trans (hb1.mono hsz)⟩
      · have HT : Hid ((a == b) = true) := (by rw [HA.out, List.drop_eq_nil_of_le (by omega : a.length ≤ k), List.drop_eq_nil_of_le (by omega : b.length ≤ k)]; rfl : (a == b) = true)
        go_wp2
        go_ret
        exact ⟨ret_bool HT.out.symm, hb⟩
  · have hd : ((a.length : Int) != (b.length : Int)) = true := by simp; omega
    have HT : Hid ((a == b) = false) := (by simp only [beq_eq_false_iff_ne, ne_eq]; intro h; exact hlen (by rw [h]) : (a == b) = false)
    clear hlen hr hr2
    go_enter Try.func22, Try.ntmps22
    go_wp2
    go_ret
    exact ⟨ret_bool HT.out.symm, Below.refl _ _⟩
end Go.Proofs.Ytidlmbajpbbilaa
namespace Go.Proofs.Ytidlmbajpbbilaa
open Go.RowKit

/-- a rule, a school without addresses -/
def Rul.pl (r : Rul) : Rul := { r with wa := none, wc := 0, ua := none, uc := 0 }
def Sch.pl (s : Sch) : Sch := { s with ra := none, rc := 0, rules := s.rules.map Rul.pl }
theorem get_pl (s : Sch) (i : Nat) : s.pl.rules[i]? = (s.rules[i]?).map Rul.pl := by simp [Sch.pl]
theorem len_pl (s : Sch) : s.pl.rules.length = s.rules.length := by simp [Sch.pl]
theorem rulesB_pl (s : Sch) : ∀ (l : List Rul) (i : Nat), rulesB s.pl i (l.map Rul.pl) = rulesB s i l
  | [], _ => rfl
  | r :: l, i => by simp only [List.map_cons, rulesB, rulesB_pl s l]; rfl
theorem schB_pl (s : Sch) : schB s.pl = schB s := by
  unfold schB
  show (baseB s.pl && rulesB s.pl 0 (s.rules.map Rul.pl)) = _
  rw [rulesB_pl]
  congr 1
  simp only [baseB, len_pl]
  rfl
theorem appl_pl (s : Sch) (ch : List Int) : appl s.pl ch = appl s ch := by
  funext i; simp only [appl, get_pl]; cases s.rules[i]? <;> rfl
theorem spks_pl (s : Sch) (hold : Nat → Bool) (kind : Int) : ∀ n, spks s.pl hold kind n = spks s hold kind n
  | 0 => rfl
  | n + 1 => by
    have ih := spks_pl s hold kind n
    funext i
    simp only [spks, get_pl, ih]
    cases s.rules[n]? <;> rfl
theorem sp_pl (s : Sch) (hold : Nat → Bool) (kind : Int) : sp s.pl hold kind = sp s hold kind := by funext i; simp only [sp, spks_pl]
theorem rnk_pl (s : Sch) : rnk s.pl = rnk s := by funext i; simp only [rnk, get_pl]; cases s.rules[i]? <;> rfl
theorem topR_pl (s : Sch) (f : Nat → Bool) : ∀ n, topR s.pl f n = topR s f n
  | 0 => rfl
  | n + 1 => by simp only [topR, topR_pl s f n, rnk_pl]
theorem mainOf_pl (s : Sch) (O : Nat) (kind : Int) (ch : List Int) : mainOf s.pl O kind ch = mainOf s O kind ch := by
  funext i; simp only [mainOf, mainS, topR_pl, rnk_pl, sp_pl, appl_pl, len_pl]
theorem mainN_pl (s : Sch) (O : Nat) (kind : Int) (ch : List Int) : mainN s.pl O kind ch = mainN s O kind ch := by simp only [mainN, mainOf_pl, len_pl]
theorem sys_pl (s : Sch) : sys s.pl = sys s := by funext i; simp only [sys, get_pl]; cases s.rules[i]? <;> rfl
theorem saidTo_pl (s : Sch) (L : Nat) : ∀ n, saidTo s.pl L n = saidTo s L n
  | 0 => rfl
  | n + 1 => by funext a; simp only [saidTo, saidTo_pl s L n, sys_pl]
theorem ansOf_pl (s : Sch) (O : Nat) (kind : Int) (ch : List Int) : ansOf s.pl O kind ch = ansOf s O kind ch := by simp only [ansOf, mainN_pl, len_pl, saidTo_pl]
theorem ansN_pl (s : Sch) (O : Nat) (kind : Int) (ch : List Int) : ansN s.pl O kind ch = ansN s O kind ch := by simp only [ansN, ansOf_pl]
theorem readR_pl (s : Sch) (ch : List Int) (kind : Int) : readR s.pl ch kind = readR s ch kind := by
  simp only [readR, schB_pl, ansOf_pl, ansN_pl, mainN_pl]; rfl
theorem chartR_pl (s : Sch) (n : Int) : chartR s.pl n = chartR s n := by simp only [chartR, schB_pl]; rfl
theorem numberR_pl (s : Sch) (l : List Int) : numberR s.pl l = numberR s l := by simp only [numberR, schB_pl]; rfl
theorem countR_pl (s : Sch) (kind : Int) (sets : List Int) : countR s.pl kind sets = countR s kind sets := by
  have h1 : silR s.pl sets kind = silR s sets kind := by funext k; simp only [silR, kdAt, ansL, ansOf_pl]; rfl
  have h2 : splR s.pl sets kind = splR s sets kind := by funext k; simp only [splR, kdAt, ansL, ansOf_pl]; rfl
  have h3 : ∀ k, saidL s.pl sets kind k = saidL s sets kind k := fun k => by
    simp only [saidL]
    refine List.map_congr_left fun a _ => ?_
    congr 1; funext k; simp only [saidR, ansL, ansOf_pl]; rfl
  simp only [countR, schB_pl, h1, h2, h3]; rfl
theorem differR_pl (a b : Sch) (kind : Int) : differR a.pl b.pl kind = differR a b kind := by
  simp only [differR, schB_pl, ansN_pl]; rfl
theorem sameB_pl (s : Sch) (O : Nat) : sameB s.pl O = sameB s O := by simp only [sameB, ansN_pl]; rfl
theorem idleR_pl (s : Sch) : idleR s.pl = idleR s := by simp only [idleR, schB_pl, idleL, len_pl, sameB_pl]
/-- nil slices have no capacity -/
def Rul.nil0 (r : Rul) : Prop := (r.wa = none → r.wc = 0) ∧ (r.ua = none → r.uc = 0)
def Sch.nil0 (s : Sch) : Prop := (s.ra = none → s.rc = 0) ∧ ∀ r ∈ s.rules, r.nil0
/-- a school with lists of its own is returned -/
def RetOwnS (s : Sch) (w : World) (e : Ending) (w' : World) : Prop := ∃ s' : Sch, e = .returned (scv s' s'.rv) ∧ s'.pl = s.pl ∧ s'.reads w' w'.heap.size ∧ s'.nil0 ∧ Below w.heap.size w w'
theorem infoRule : (Try.prog.info? 82).map (fun i => (i.zero, i.size, i.bytes)) = some (some (.agg #[.slice none 0 0, .int .i64 0, .int .i64 0, .slice none 0 0, .int .i64 0]), 5, 72) := by kernel_rfl
theorem uRules : Try.prog.underlying 22 = some (.slice 82) := by kernel_rfl
theorem ownsRow_apart {W : World} {b b' s s' n n' : Nat} {e e' : TypeId} {v v' : Value} {xs xs' : List Value} (h : W.ownsRow b e s v n xs) (h' : W.ownsRow b' e' s' v' n' xs') (hne : e ≠ e') : v.ownBlock = none ∨ v.ownBlock ≠ v'.ownBlock := by
  rcases h.2 with ⟨rfl, _⟩ | ⟨g, cap, cur, rfl, _, hg, _⟩
  · exact .inl rfl
  · rcases h'.2 with ⟨rfl, _⟩ | ⟨g', cap', cur', rfl, _, hg', _⟩
    · right; simp [Value.ownBlock]
    · right
      simp only [Value.ownBlock, ne_eq, Option.some.injEq]
      rintro rfl
      rw [hg] at hg'; cases hg'; exact hne rfl
/-- a rule whose lists are rows -/
structure RowsOf (W : World) (r : Rul) : Prop where
  w_ : W.ownsRow 0 103 4 (.slice r.wa r.when_.length r.wc) r.when_.length (flat Tst.cells r.when_)
  u_ : W.ownsRow 0 3 1 (.slice r.ua r.unless_.length r.uc) r.unless_.length (flat intCell r.unless_)
  l1 : r.when_.length ≤ 1000000
  l2 : r.unless_.length ≤ 1000000
  ok : ∀ t ∈ r.when_, t.ok
theorem RowsOf.grown {W W' : World} {r : Rul} (h : RowsOf W r) {row : Option Nat} (hg : W.grownBy W' row) (hr : ∀ e (v : Value), (e = 103 ∨ e = 3) → (∃ s n xs, W.ownsRow 0 e s v n xs) → v.ownBlock = none ∨ v.ownBlock ≠ row) : RowsOf W' r :=
  ⟨h.w_.kept hg (hr _ _ (.inl rfl) ⟨_, _, _, h.w_⟩), h.u_.kept hg (hr _ _ (.inr rfl) ⟨_, _, _, h.u_⟩), h.l1, h.l2, h.ok⟩
theorem RowsOf.below {W W' : World} {r : Rul} (h : RowsOf W r) (hb : Below W.heap.size W W') : RowsOf W' r :=
  h.grown (grown_of_below hb) fun e v _ _ => by cases hv : v.ownBlock <;> simp
theorem RowsOf.reads {W : World} {r : Rul} (h : RowsOf W r) : r.reads W W.heap.size := by
  obtain ⟨A, c, hv, hs⟩ := Sl.of_own h.w_
  obtain ⟨A2, c2, hv2, hs2⟩ := Sl.of_own h.u_
  cases hv; cases hv2
  exact ⟨hs, hs2, h.l1, h.l2, h.ok⟩
theorem RowsOf.nil {W : World} {r : Rul} (h : RowsOf W r) : r.nil0 := by
  refine ⟨fun e => ?_, fun e => ?_⟩
  · rcases h.w_.2 with ⟨hv, _⟩ | ⟨g, cap, cur, hv, _⟩
    · injection hv
    · rw [e] at hv; cases hv
  · rcases h.u_.2 with ⟨hv, _⟩ | ⟨g, cap, cur, hv, _⟩
    · injection hv
    · rw [e] at hv; cases hv
theorem oneCell_tests (l : List Tst) (_h : ∀ t ∈ l, t.ok) : ∀ u ∈ flat Tst.cells l, u.oneCell' = true := fun u hu => by
  obtain ⟨t, ht, hu⟩ := List.mem_flatMap.1 hu
  simp only [Tst.cells, List.mem_cons, List.not_mem_nil, or_false] at hu
  rcases hu with rfl | rfl | rfl | rfl <;> simp [Value.oneCell']
theorem oneCell_ints (l : List Int) : ∀ u ∈ flat intCell l, u.oneCell' = true := fun u hu => by
  obtain ⟨t, ht, hu⟩ := List.mem_flatMap.1 hu
  simp only [List.mem_cons, List.not_mem_nil, or_false] at hu
  subst hu; simp [Value.oneCell']
end Go.Proofs.Ytidlmbajpbbilaa
namespace Go.Proofs.Ytidlmbajpbbilaa
open Go.RowKit

theorem gen_w {F : Act → World → Prop} {a : Act} {W : World} (P : World → Prop) (h : P W) (k : ∀ W', P W' → F a W') : F a W := k W h
theorem own_mono {W : World} {b e s n : Nat} {v : Value} {xs : List Value} (h : W.ownsRow b e s v n xs) : W.ownsRow 0 e s v n xs := by
  refine ⟨h.1, ?_⟩
  rcases h.2 with h2 | ⟨g, cap, cur, e1, _, h3⟩
  · exact .inl h2
  · exact .inr ⟨g, cap, cur, e1, Nat.zero_le _, h3⟩
theorem own_put {W : World} {b e s n : Nat} {v : Value} {xs : List Value} (h : W.ownsRow b e s v n xs) {k : Nat} (hk : k < b) (o : Nat) (x : Value) : (W.setCell ⟨k, o, none⟩ x).ownsRow b e s v n xs := by
  refine ⟨h.1, ?_⟩
  rcases h.2 with h2 | ⟨g, cap, cur, e1, hg, h3, h4⟩
  · exact .inl h2
  · exact .inr ⟨g, cap, cur, e1, hg, by rw [Below.heap_setCell _ _ _ _ (by show g ≠ k; omega)]; exact h3, h4⟩
theorem own_put' {W : World} {b e s n k t : Nat} {v : Value} {xs : List Value} (h : W.ownsRow b e s v n xs) (hk : ∃ cs, Blk W k cs t) (hne : e ≠ t) (o : Nat) (x : Value) : (W.setCell ⟨k, o, none⟩ x).ownsRow b e s v n xs := by
  refine ⟨h.1, ?_⟩
  rcases h.2 with h2 | ⟨g, cap, cur, e1, hg, h3, h4⟩
  · exact .inl h2
  · obtain ⟨cs, hk⟩ := hk
    exact .inr ⟨g, cap, cur, e1, hg, by
      rw [Below.heap_setCell _ _ _ _ (by show g ≠ k; rintro rfl; have hk2 : W.heap[g]? = some _ := hk; rw [h3] at hk2; cases hk2; exact hne rfl)]; exact h3, h4⟩
theorem RowsOf.put {W : World} {r : Rul} (h : RowsOf W r) {k : Nat} (hk : ∃ cs, Blk W k cs 24) (o : Nat) (x : Value) : RowsOf (W.setCell ⟨k, o, none⟩ x) r :=
  ⟨own_put' h.w_ hk (by decide) o x, own_put' h.u_ hk (by decide) o x, h.l1, h.l2, h.ok⟩
theorem bk_put {W : World} {k t : Nat} (hk : ∃ cs, Blk W k cs t) (k' o : Nat) (x : Value) : ∃ cs, Blk (W.setCell ⟨k', o, none⟩ x) k cs t := by
  obtain ⟨cs, hk⟩ := hk
  by_cases h : k = k'
  · subst h; exact ⟨_, hk.set o x⟩
  · exact ⟨_, hk.far _ h x⟩
theorem own_ge {W : World} {b e s n g : Nat} {v : Value} {xs : List Value} (h : W.ownsRow b e s v n xs) (hg : v.ownBlock = some g) : b ≤ g := by
  rcases h.2 with ⟨rfl, _⟩ | ⟨g', cap, cur, rfl, hb, _⟩
  · cases hg
  · injection hg with hg; subst hg; exact hb

set_option maxRecDepth 100000 in
set_option maxHeartbeats 4000000 in
theorem own_any (s : Sch) (w : World) (hr : s.reads w w.heap.size) (h0 : s.nil0) (hl : s.rules.length ≤ 1000) : Calls Try.prog 17 #[scv s s.rv] w (RetOwnS s w) := by
  obtain ⟨i1, hi1, iy0, iy1, iy2⟩ := info_parts infoRule
  have HRR := Lib.hid hr; have HN0 := Lib.hid h0
  clear hr h0
  go_enter Try.func17, Try.ntmps17
  go_wp2
  refine wp_world (fun W => Below w.heap.size w W ∧ w.heap.size + 1 + 1 < W.heap.size ∧ Blk W w.heap.size #[.int .i64 s.places, .int .i64 s.signs, .int .i64 s.kinds, .int .i64 s.answers, s.rv] 24 ∧
    Blk W (w.heap.size + 1) #[.int .i64 0, .int .i64 0, .int .i64 0, .int .i64 0, .slice none 0 0] 24 ∧ W.ownsRow (w.heap.size + 1 + 1) 82 5 (.slice (some ⟨w.heap.size + 1 + 1, 0, none⟩) 0 0) 0 []) ?_ ?_
  · refine ⟨by (repeat (first | exact Below.refl _ _ | assumption | (refine Below.alloc ?_ (by first | omega | (simp; omega) | (simp; done)) _) | (refine Below.setCell ?_ (by first | omega | (simp; omega) | (simp; done)) _) | (refine Below.drew ?_) | (refine belowN ?_ _) | (refine Below.trans ?_ (Below.mono ‹Below _ _ _› (by first | omega | (simp; omega) | (simp; done)))))), by simp, ((Blk.at_ rfl).alloc _).alloc _, (Blk.at_ (by simp)).alloc _, ?_⟩
    have := World.ownsRow_made (e := 82) (size := 5) ((w.alloc (.cells #[.int .i64 s.places, .int .i64 s.signs, .int .i64 s.kinds, .int .i64 s.answers, s.rv] 24)).alloc (.cells #[.int .i64 0, .int .i64 0, .int .i64 0, .int .i64 0, .slice none 0 0] 24)) #[] 0 (base := w.heap.size + 1 + 1) (by simp) (by simp) (by simp)
    simpa using this
  rintro w0 ⟨hbw, hz0, g0, g1, hown0⟩
  have HO0 := Lib.hid hown0
  go_loopw [3, 4] (fun v i wr => ∃ (j : Nat) (l : List Rul), j ≤ s.rules.length ∧ i = .int .i64 j ∧ Hid (l.length = j) ∧ Hid (wr.ownsRow (w.heap.size + 1 + 1) 82 5 v l.length (flat Rul.cells l)) ∧ Hid (∀ r ∈ l, RowsOf wr r) ∧ Hid (l.map Rul.pl = (s.rules.take j).map Rul.pl) ∧
    Hid (Below w.heap.size w wr) ∧ w.heap.size + 1 + 1 < wr.heap.size ∧ Hid (Blk wr w.heap.size #[.int .i64 s.places, .int .i64 s.signs, .int .i64 s.kinds, .int .i64 s.answers, s.rv] 24) ∧ Hid (Blk wr (w.heap.size + 1) #[.int .i64 0, .int .i64 0, .int .i64 0, .int .i64 0, .slice none 0 0] 24)) (fun _ i _ => s.rules.length - (intOf i).toNat)
  case atStart => exact ⟨0, [], by omega, rfl, rfl, HO0, (fun r hr => by cases hr), rfl, hbw, hz0, g0, g1⟩
  case round =>
    obtain ⟨j, l, hj, rfl, hlj, hown, hrows, hpl, hbr, hzr, q0, q1⟩ := hrel
    have s4 := q0.out.cell 4
    simp at s4
    by_cases hlt : j < s.rules.length
    · have hrr := HRR.out.below hbr.out
      obtain ⟨ab, ao, hra, hblk, hcell⟩ := hrr.1.at_ (k := j) (fun _ => rfl) hlt
      have s4' : wr.cell? ⟨w.heap.size, 4, none⟩ = some (.slice (some ⟨ab, ao, none⟩) s.rules.length s.rc) := by rw [s4, ← hra]
      have hrl := (hrr.2.2 _ (List.getElem_mem hlt)).more hbr.out.size
      have hn0 := HN0.out.2 _ (List.getElem_mem hlt)
      have HTK := Lib.hid (List.take_succ_eq_append_getElem hlt)
      obtain ⟨r, hre⟩ : ∃ t, s.rules[j] = t := ⟨_, rfl⟩
      rw [hre] at hcell hrl hn0 HTK
      have c0 : wr.cell? ⟨ab, ao + j * 5, none⟩ = some (.slice r.wa r.when_.length r.wc) := hcell 0 _ rfl
      have c1 : wr.cell? ⟨ab, ao + j * 5 + 1, none⟩ = some (.int .i64 r.kinds) := hcell 1 _ rfl
      have c2 : wr.cell? ⟨ab, ao + j * 5 + 2, none⟩ = some (.int .i64 r.rank) := hcell 2 _ rfl
      have c3 : wr.cell? ⟨ab, ao + j * 5 + 3, none⟩ = some (.slice r.ua r.unless_.length r.uc) := hcell 3 _ rfl
      have c4 : wr.cell? ⟨ab, ao + j * 5 + 4, none⟩ = some (.int .i64 r.says) := hcell 4 _ rfl
      obtain ⟨hw1, hw2, hl1, hl2, hok⟩ := hrl
      have HT := fun W (hW : Below wr.heap.size wr W) => Lib.hid (ltests_any r.wa r.wc r.when_ W hl1 hn0.1 (oneCell_tests _ hok) ((hw1.below hW).more hW.size))
      have HI := fun W (hW : Below wr.heap.size wr W) => Lib.hid (lints_any r.ua r.uc r.unless_ W hl2 hn0.2 (oneCell_ints _) ((hw2.below hW).more hW.size))
      have HOK := Lib.hid hok
      clear hcell hre hra hrr s4 hw1 hw2 hok hn0
      go_wp2
      go_region_with (first | (go_at_call 37; refine ((HT _ (by (repeat (first | exact Below.refl _ _ | assumption | (refine Below.alloc ?_ (by first | omega | (simp; omega) | (simp; done)) _) | (refine Below.setCell ?_ (by first | omega | (simp; omega) | (simp; done)) _) | (refine Below.drew ?_) | (refine belowN ?_ _) | (refine Below.trans ?_ (Below.mono ‹Below _ _ _› (by first | omega | (simp; omega) | (simp; done)))))))).out).mono ?_; rintro e w1 ⟨v1, rfl, hown1, hb1⟩; have hc1 := fun b o (h : b < wr.heap.size + 1) => (bcell hb1).1 b o (by simp; omega); have hf1 := fun b o (h : b < wr.heap.size + 1) => (bcell hb1).2 b o (by simp; omega); have hz1 : wr.heap.size + 1 ≤ w1.heap.size := (by have := hb1.size; simp at this; omega); obtain ⟨A1, k1, hv1⟩ : ∃ A c, v1 = .slice A r.when_.length c := (by obtain ⟨A, c, h, _⟩ := Sl.of_own hown1; exact ⟨A, c, h⟩); subst hv1; have HO1 := Lib.hid hown1; clear hown1) | (go_at_call 38; have hbz : Below wr.heap.size wr w1 := Below.trans (by (repeat (first | exact Below.refl _ _ | assumption | (refine Below.alloc ?_ (by first | omega | (simp; omega) | (simp; done)) _) | (refine Below.setCell ?_ (by first | omega | (simp; omega) | (simp; done)) _) | (refine Below.drew ?_) | (refine belowN ?_ _) | (refine Below.trans ?_ (Below.mono ‹Below _ _ _› (by first | omega | (simp; omega) | (simp; done))))))) (Below.mono hb1 (by simp)); refine ((HI _ hbz).out).mono ?_; rintro e w2 ⟨v2, rfl, hown2, hb2⟩; have hc2 := fun b o (h : b < wr.heap.size + 1) => (bcell hb2).1 b o (by omega); have hf2 := fun b o (h : b < wr.heap.size + 1) => (bcell hb2).2 b o (by omega); obtain ⟨A2, k2, hv2⟩ : ∃ A c, v2 = .slice A r.unless_.length c := (by obtain ⟨A, c, h, _⟩ := Sl.of_own hown2; exact ⟨A, c, h⟩); subst hv2; have HO2 := Lib.hid hown2; clear hown2))
      all_goals (
        refine gen_w (fun W => Blk W wr.heap.size #[.slice A1 r.when_.length k1, .int .i64 r.kinds, .int .i64 r.rank, .slice A2 r.unless_.length k2, .int .i64 r.says] 82 ∧ Below wr.heap.size wr W ∧ W.ownsRow 0 103 4 (.slice A1 r.when_.length k1) r.when_.length (flat Tst.cells r.when_) ∧ W.ownsRow 0 3 1 (.slice A2 r.unless_.length k2) r.unless_.length (flat intCell r.unless_) ∧ wr.heap.size < W.heap.size) ?_ ?_
        · have gB : Blk w2 wr.heap.size #[.slice r.wa r.when_.length r.wc, .int .i64 r.kinds, .int .i64 r.rank, .slice r.ua r.unless_.length r.uc, .int .i64 r.says] 82 := ((show Blk ((wr.alloc (.cells #[.slice r.wa r.when_.length r.wc, .int .i64 r.kinds, .int .i64 r.rank, .slice r.ua r.unless_.length r.uc, .int .i64 r.says] 82)).drew) wr.heap.size #[.slice r.wa r.when_.length r.wc, .int .i64 r.kinds, .int .i64 r.rank, .slice r.ua r.unless_.length r.uc, .int .i64 r.says] 82 from Blk.new wr _ _).below hb1 (by simp)).below hb2 (by omega)
          have o1 := (HO1.out.kept (grown_of_below hb2) (by cases A1 <;> simp [Value.ownBlock]))
          have o2 := HO2.out
          have hB2 : Below wr.heap.size wr w2 := hbz.trans (hb2.mono (by omega))
          have hz2 := hb2.size
          refine ⟨?_, (hB2.setCell (Nat.le_refl _) _).setCell (Nat.le_refl _) _, ?_, ?_, by simp; omega⟩
          · first | exact (gB.set 0 _).set 3 _ | exact (gB.set 3 _).set 0 _
          · exact own_mono (own_put (own_put o1 (by simp) _ _) (by simp) _ _)
          · exact own_mono (own_put (own_put o2 (by omega) _ _) (by omega) _ _)
        clear hb1 hb2 hbz hc1 hf1 hc2 hf2 hz1 HO1 HO2
        rintro W4 ⟨g4, hb4, p1, p2, hz4⟩
        have l0 := g4.cell 0
        have l1 := g4.cell 1
        have l2 := g4.cell 2
        have l3 := g4.cell 3
        have l4 := g4.cell 4
        simp at l0 l1 l2 l3 l4
        have hc5 : ∀ (i : Nat) (u : Value), [Value.slice A1 r.when_.length k1, .int .i64 r.kinds, .int .i64 r.rank, .slice A2 r.unless_.length k2, .int .i64 r.says][i]? = some u → (W4.alloc (.cells #[.slice A1 r.when_.length k1, .int .i64 r.kinds, .int .i64 r.rank, .slice A2 r.unless_.length k2, .int .i64 r.says] 82)).cell? ((⟨W4.heap.size, 0, none⟩ : Addr).add i) = some u := fun i u hu => by
          rw [Go.WideShapes.add_plain, Nat.zero_add, (Blk.new W4 _ _).cell i, ← hu]; simp
        have how := hown.out.kept (grown_of_below hb4) (by cases hv : u3.ownBlock <;> simp)
        have HC5 := Lib.hid hc5
        have HOW := Lib.hid how
        clear hc5 how
        go_wp2_with (at_builtin; refine wpList_append_own _ rfl _ _ 22 rfl (w.heap.size + 1 + 1) 82 i1 (.agg #[.slice none 0 0, .int .i64 0, .int .i64 0, .slice none 0 0, .int .i64 0]) 5 72 uRules hi1 iy0 iy1 iy2 rfl (by decide) _ _ _ rfl (HOW.out.alloc _) ⟨W4.heap.size, 0, none⟩ 1 1 [.slice A1 r.when_.length k1, .int .i64 r.kinds, .int .i64 r.rank, .slice A2 r.unless_.length k2, .int .i64 r.says] rfl rfl HC5.out (by simp [Value.oneCell']) (by have := hlj.out; unfold maxLen; omega) (by have := hlj.out; omega) (by have := hlj.out; simp; omega) ?_; intro v' w5 hown5 hgrow _)
        have hol := hlj.out
        have hb45 : Below (w.heap.size + 1 + 1) wr w5 := ((hb4.mono (by omega)).alloc (by omega) _).grown hgrow (by simp; omega) (fun g hg => own_ge hown.out hg)
        have hbz5 : W4.heap.size < w5.heap.size := by have := hgrow.size; simp at this; omega
        refine ⟨⟨j + 1, l ++ [⟨A1, k1, r.when_, r.kinds, r.rank, A2, k2, r.unless_, r.says⟩], by omega, by simp, by show _ = _; simp [hol], by show World.ownsRow _ _ _ _ _ _ _; simpa [flat, Rul.cells] using hown5, ?_, ?_, hbr.out.trans (hb45.mono (by omega)), by omega, ?_, ?_⟩, by simp [intOf]; omega⟩
        · show ∀ r ∈ _, _
          have hA : ∀ q : Rul, RowsOf (W4.alloc (.cells #[.slice A1 r.when_.length k1, .int .i64 r.kinds, .int .i64 r.rank, .slice A2 r.unless_.length k2, .int .i64 r.says] 82)) q → RowsOf w5 q := fun q hq => hq.grown hgrow fun e v he ⟨s', n', xs', h'⟩ => by
            obtain h2 := ownsRow_apart h' (HOW.out.alloc (.cells #[.slice A1 r.when_.length k1, .int .i64 r.kinds, .int .i64 r.rank, .slice A2 r.unless_.length k2, .int .i64 r.says] 82)) (by rcases he with rfl | rfl <;> decide)
            exact h2
          intro q hq
          rcases List.mem_append.1 hq with hq | hq
          · exact hA q (((hrows.out q hq).below hb4).below ((Below.refl _ _).alloc (Nat.le_refl _) _))
          · obtain rfl : q = _ := by simpa using hq
            exact hA _ (RowsOf.below (W := W4) ⟨p1, p2, hl1, hl2, HOK.out⟩ ((Below.refl _ _).alloc (Nat.le_refl _) _))
        · show _ = _
          rw [HTK.out, List.map_append, List.map_append, hpl.out]; rfl
        · exact q0.out.below hb45 (by omega)
        · exact q1.out.below hb45 (by omega))
    · obtain rfl : j = s.rules.length := by omega
      have hjl := hlj.out
      obtain ⟨A, c, rfl, hs⟩ := Sl.of_own hown.out
      have HS := Lib.hid hs
      clear hs
      have t0 := q0.out.cell 0
      have t1 := q0.out.cell 1
      have t2 := q0.out.cell 2
      have t3 := q0.out.cell 3
      have f4 := q0.out.free 4
      have y0 := q1.out.free 0
      have y1 := q1.out.free 1
      have y2 := q1.out.free 2
      have y3 := q1.out.free 3
      have y4 := q1.out.free 4
      have x0 := q1.out.cell 0
      have x1 := q1.out.cell 1
      have x2 := q1.out.cell 2
      have x3 := q1.out.cell 3
      have x4 := q1.out.cell 4
      simp at t0 t1 t2 t3 x0 x1 x2 x3 x4
      go_wp2
      refine gen_w (fun W => Blk W (w.heap.size + 1) #[.int .i64 s.places, .int .i64 s.signs, .int .i64 s.kinds, .int .i64 s.answers, .slice A s.rules.length c] 24 ∧ (∀ r ∈ l, RowsOf W r) ∧ W.ownsRow (w.heap.size + 1 + 1) 82 5 (Value.slice A l.length c) l.length (flat Rul.cells l) ∧ Below w.heap.size w W) ?_ ?_
      · have k0 : ∃ cs, Blk wr w.heap.size cs 24 := ⟨_, q0.out⟩
        have k1 : ∃ cs, Blk wr (w.heap.size + 1) cs 24 := ⟨_, q1.out⟩
        have z1 := bk_put k1 w.heap.size 4 (Value.slice A s.rules.length c)
        have z2 := bk_put z1 (w.heap.size + 1) 0 (.int .i64 s.places)
        have z3 := bk_put z2 (w.heap.size + 1) 1 (.int .i64 s.signs)
        have z4 := bk_put z3 (w.heap.size + 1) 2 (.int .i64 s.kinds)
        have z5 := bk_put z4 (w.heap.size + 1) 3 (.int .i64 s.answers)
        refine ⟨((((((q1.out.far ⟨w.heap.size, 4, none⟩ (by simp) (Value.slice A s.rules.length c)).set 0 (.int .i64 s.places)).set 1 (.int .i64 s.signs)).set 2 (.int .i64 s.kinds)).set 3 (.int .i64 s.answers)).set 4 (Value.slice A s.rules.length c)), fun r hr => ((((((hrows.out r hr).put k0 4 (Value.slice A s.rules.length c)).put z1 0 (.int .i64 s.places)).put z2 1 (.int .i64 s.signs)).put z3 2 (.int .i64 s.kinds)).put z4 3 (.int .i64 s.answers)).put z5 4 (Value.slice A s.rules.length c), own_put (own_put (own_put (own_put (own_put (own_put hown.out (k := w.heap.size) (by omega) 4 (Value.slice A s.rules.length c)) (k := w.heap.size + 1) (by omega) 0 (.int .i64 s.places)) (k := w.heap.size + 1) (by omega) 1 (.int .i64 s.signs)) (k := w.heap.size + 1) (by omega) 2 (.int .i64 s.kinds)) (k := w.heap.size + 1) (by omega) 3 (.int .i64 s.answers)) (k := w.heap.size + 1) (by omega) 4 (Value.slice A s.rules.length c), ?_⟩
        exact (((((hbr.out.setCell (by simp) _).setCell (by simp) _).setCell (by simp) _).setCell (by simp) _).setCell (by simp) _).setCell (by simp) _
      clear hown hrows hbr q0 q1 hzr HS
      rintro Wf ⟨gz, hrw, how, hbf⟩
      have e0 := gz.cell 0
      have e1 := gz.cell 1
      have e2 := gz.cell 2
      have e3 := gz.cell 3
      have e4 := gz.cell 4
      simp at e0 e1 e2 e3 e4
      refine bodyPost_ret (v := .agg #[.int .i64 s.places, .int .i64 s.signs, .int .i64 s.kinds, .int .i64 s.answers, .slice A s.rules.length c]) (by simp [results, Try.results17, go_sem, e0, e1, e2, e3, e4]) rfl ?_
      obtain ⟨A', c', hv', hs'⟩ := Sl.of_own how
      cases hv'
      refine ⟨⟨s.places, s.signs, s.kinds, s.answers, A, c, l⟩, by rw [← hjl], ?_, ⟨hs', by show l.length ≤ _; omega, fun r hr => (hrw r hr).reads⟩, ⟨fun e => ?_, fun r hr => (hrw r hr).nil⟩, hbf⟩
      · have := hpl.out
        rw [List.take_length] at this
        simp only [Sch.pl, this]
      · rcases how.2 with ⟨hv, _⟩ | ⟨g, cap, cur, hv, _⟩
        · injection hv
        · replace e : A = none := e
          rw [e] at hv; cases hv
end Go.Proofs.Ytidlmbajpbbilaa
namespace Go.Proofs.Ytidlmbajpbbilaa
open Go.RowKit

def smR0 (A : Option Addr) (c : Nat) : Rul := ⟨A, c, [⟨1, 0, 0, 3⟩], 1, 0, none, 0, [], 0⟩
def smR1 (A : Option Addr) (c : Nat) : Rul := ⟨A, c, [⟨2, 0, 1, 0⟩], 1, 1, none, 0, [], 1⟩
def smR2 (A : Option Addr) (c : Nat) (A2 : Option Addr) (c2 : Nat) : Rul := ⟨A, c, [⟨1, 1, 0, 4⟩], 1, 0, A2, c2, [1], 2⟩
abbrev smS (ra : Option Addr) (rc : Nat) (A0 : Option Addr) (c0 : Nat) (A1 : Option Addr) (c1 : Nat) (A2 : Option Addr) (c2 : Nat) (A3 : Option Addr) (c3 : Nat) : Sch := ⟨2, 3, 1, 3, ra, rc, [smR0 A0 c0, smR1 A1 c1, smR2 A2 c2 A3 c3]⟩
def RetSmall (w : World) (e : Ending) (w' : World) : Prop := ∃ ra rc A0 c0 A1 c1 A2 c2 A3 c3, e = .returned (scv (smS ra rc A0 c0 A1 c1 A2 c2 A3 c3) (smS ra rc A0 c0 A1 c1 A2 c2 A3 c3).rv) ∧ (smS ra rc A0 c0 A1 c1 A2 c2 A3 c3).reads w' w'.heap.size ∧ Below w.heap.size w w'
theorem sl_one {α : Type} {f : α → List Value} {size : Nat} {W : World} {b t : Nat} {l : List α} {cs : Array Value} (h : Blk W b cs t) (hl : (flat f l).length = l.length * size) (hcs : (flat f l).toArray = cs) : Sl f size W W.heap.size (some ⟨b, 0, none⟩) l := by
  refine ⟨hl, fun _ => ⟨b, 0, rfl, h.lt, fun j u hu => ?_⟩⟩
  rw [Nat.zero_add, h.cell j, ← hcs]; simpa using hu
theorem sl_nil {α : Type} {f : α → List Value} {size : Nat} {W : World} {B : Nat} : Sl f size W B none [] := ⟨by simp [flat], fun h => by simp at h⟩

set_option maxRecDepth 100000 in
set_option maxHeartbeats 4000000 in
theorem small_any (w : World) : Calls Try.prog 50 #[] w (RetSmall w) := by
  go_enter Try.func50, Try.ntmps50
  go_wp2
  refine gen_w (fun W => Blk W w.heap.size #[.int .i64 2, .int .i64 3, .int .i64 1, .int .i64 3, .slice (some ⟨w.heap.size + 1 + 1 + 1 + 1 + 1, 0, none⟩) 3 3] 24 ∧
    Blk W (w.heap.size + 1) #[.int .i64 1, .int .i64 0, .int .i64 0, .int .u64 3] 103 ∧ Blk W (w.heap.size + 1 + 1) #[.int .i64 2, .int .i64 0, .int .i64 1, .int .u64 0] 103 ∧ Blk W (w.heap.size + 1 + 1 + 1) #[.int .i64 1, .int .i64 1, .int .i64 0, .int .u64 4] 103 ∧ Blk W (w.heap.size + 1 + 1 + 1 + 1) #[.int .i64 1] 3 ∧
    Blk W (w.heap.size + 1 + 1 + 1 + 1 + 1) #[.slice (some ⟨w.heap.size + 1, 0, none⟩) 1 1, .int .i64 1, .int .i64 0, .slice none 0 0, .int .i64 0, .slice (some ⟨w.heap.size + 1 + 1, 0, none⟩) 1 1, .int .i64 1, .int .i64 1, .slice none 0 0, .int .i64 1, .slice (some ⟨w.heap.size + 1 + 1 + 1, 0, none⟩) 1 1, .int .i64 1, .int .i64 0, .slice (some ⟨w.heap.size + 1 + 1 + 1 + 1, 0, none⟩) 1 1, .int .i64 2] 82 ∧ Below w.heap.size w W) ?_ ?_
  · refine ⟨(((((Blk.at_ rfl).alloc _).alloc _).alloc _).alloc _).alloc _, ((((Blk.at_ (by simp)).alloc _).alloc _).alloc _).alloc _, (((Blk.at_ (by simp)).alloc _).alloc _).alloc _, ((Blk.at_ (by simp)).alloc _).alloc _, (Blk.at_ (by simp)).alloc _, Blk.at_ (by simp), by (repeat (first | exact Below.refl _ _ | assumption | (refine Below.alloc ?_ (by first | omega | (simp; omega) | (simp; done)) _) | (refine Below.setCell ?_ (by first | omega | (simp; omega) | (simp; done)) _) | (refine Below.drew ?_) | (refine belowN ?_ _) | (refine Below.trans ?_ (Below.mono ‹Below _ _ _› (by first | omega | (simp; omega) | (simp; done))))))⟩
  rintro W ⟨g0, g1, g2, g3, g4, g5, hb⟩
  have e0 := g0.cell 0
  have e1 := g0.cell 1
  have e2 := g0.cell 2
  have e3 := g0.cell 3
  have e4 := g0.cell 4
  simp at e0 e1 e2 e3 e4
  refine bodyPost_ret (v := .agg #[.int .i64 2, .int .i64 3, .int .i64 1, .int .i64 3, .slice (some ⟨w.heap.size + 1 + 1 + 1 + 1 + 1, 0, none⟩) 3 3]) (by simp [results, Try.results50, go_sem, e0, e1, e2, e3, e4]) rfl ?_
  refine ⟨some ⟨w.heap.size + 1 + 1 + 1 + 1 + 1, 0, none⟩, 3, some ⟨w.heap.size + 1, 0, none⟩, 1, some ⟨w.heap.size + 1 + 1, 0, none⟩, 1, some ⟨w.heap.size + 1 + 1 + 1, 0, none⟩, 1, some ⟨w.heap.size + 1 + 1 + 1 + 1, 0, none⟩, 1, rfl, ⟨sl_one g5 rfl rfl, by simp, fun r hr => ?_⟩, hb⟩
  simp only [List.mem_cons, List.not_mem_nil, or_false] at hr
  rcases hr with rfl | rfl | rfl
  · exact ⟨sl_one g1 rfl rfl, sl_nil, by simp [smR0], by simp [smR0], by simp [smR0, Tst.ok, Value.oneCell']⟩
  · exact ⟨sl_one g2 rfl rfl, sl_nil, by simp [smR1], by simp [smR1], by simp [smR1, Tst.ok, Value.oneCell']⟩
  · exact ⟨sl_one g3 rfl rfl, sl_one g4 rfl rfl, by simp [smR2], by simp [smR2], by simp [smR2, Tst.ok, Value.oneCell']⟩
end Go.Proofs.Ytidlmbajpbbilaa
namespace Go.Proofs.Ytidlmbajpbbilaa
open Go.RowKit

theorem small_read (ra : Option Addr) (rc : Nat) (A0 : Option Addr) (c0 : Nat) (A1 : Option Addr) (c1 : Nat) (A2 : Option Addr) (c2 : Nat) (A3 : Option Addr) (c3 : Nat) : readR (smS ra rc A0 c0 A1 c1 A2 c2 A3 c3) [0, 2] 0 = (3, [0, 2], [0, 2], 0) := by kernel_rfl
theorem small_count (ra : Option Addr) (rc : Nat) (A0 : Option Addr) (c0 : Nat) (A1 : Option Addr) (c1 : Nat) (A2 : Option Addr) (c2 : Nat) (A3 : Option Addr) (c3 : Nat) : countR (smS ra rc A0 c0 A1 c1 A2 c2 A3 c3) 0 [7, 7] = (9, 2, 2, [2, 3, 0], 0) := by kernel_rfl
theorem small_idle (ra : Option Addr) (rc : Nat) (A0 : Option Addr) (c0 : Nat) (A1 : Option Addr) (c1 : Nat) (A2 : Option Addr) (c2 : Nat) (A3 : Option Addr) (c3 : Nat) : idleR (smS ra rc A0 c0 A1 c1 A2 c2 A3 c3) = ([], 0) := by kernel_rfl
theorem small_keeps (ra : Option Addr) (rc : Nat) (A0 : Option Addr) (c0 : Nat) (A1 : Option Addr) (c1 : Nat) (A2 : Option Addr) (c2 : Nat) (A3 : Option Addr) (c3 : Nat) (a b : Option Addr) (c d : Nat) : keepsR (smS ra rc A0 c0 A1 c1 A2 c2 A3 c3) [⟨0, a, c, [7, 3], false, true⟩, ⟨0, b, d, [7, 3], true, false⟩] = (1, 6, 0) := by kernel_rfl
theorem small_gloss (ra : Option Addr) (rc : Nat) (A0 : Option Addr) (c0 : Nat) (A1 : Option Addr) (c1 : Nat) (A2 : Option Addr) (c2 : Nat) (A3 : Option Addr) (c3 : Nat) (a b : Value) : glossR (smS ra rc A0 c0 A1 c1 A2 c2 A3 c3) 0 [⟨a, [⟨1, 0, 0, 3⟩], 0⟩, ⟨b, [⟨1, 0, 0, 4⟩], 1⟩] = (0, 0, 3, 0) := by kernel_rfl
end Go.Proofs.Ytidlmbajpbbilaa

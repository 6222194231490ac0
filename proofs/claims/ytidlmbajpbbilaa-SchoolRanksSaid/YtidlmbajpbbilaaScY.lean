/- School: Minimal. -/
import Derived.Test.YtidlmbajpbbilaaZ13ScV
namespace Go.Proofs.Ytidlmbajpbbilaa
open Go.RowKit
attribute [local go_sem] Oper.semAt_some

/-- rule i is left out, if it is not yet and nothing is read differently -/
def stepM (s : Sch) (O i : Nat) : Nat := if !O.testBit i && sameB s (O ||| 2 ^ i) then O ||| 2 ^ i else O
/-- the last k rules have been gone through -/
def stepsM (s : Sch) (O : Nat) : Nat → Nat
  | 0 => O
  | k + 1 => stepM s (stepsM s O k) (s.rules.length - 1 - k)
def passM (s : Sch) (O : Nat) : Nat := stepsM s O s.rules.length
def passes (s : Sch) : Nat → Nat
  | 0 => 0
  | j + 1 => passM s (passes s j)
def MinOk (s : Sch) (R : Nat) : Prop := passM s R = R ∧ ∃ j, R = passes s j
theorem stepM_lt {s : Sch} {O i n : Nat} (hO : O < 2 ^ n) (hi : i < n) : stepM s O i < 2 ^ n := by
  unfold stepM; split
  · exact Nat.or_lt_two_pow hO (Nat.pow_lt_pow_right (by omega) hi)
  · exact hO
theorem stepM_le (s : Sch) (O i : Nat) : O ≤ stepM s O i := by
  unfold stepM; split
  · exact Nat.left_le_or
  · exact Nat.le_refl _
theorem stepsM_lt {s : Sch} {O : Nat} (hO : O < 2 ^ s.rules.length) : ∀ k, k ≤ s.rules.length → stepsM s O k < 2 ^ s.rules.length
  | 0, _ => hO
  | k + 1, hk => stepM_lt (stepsM_lt hO k (by omega)) (by omega)
theorem stepsM_le (s : Sch) (O : Nat) : ∀ k, O ≤ stepsM s O k
  | 0 => Nat.le_refl _
  | k + 1 => Nat.le_trans (stepsM_le s O k) (stepM_le s _ _)
theorem passes_lt (s : Sch) : ∀ j, passes s j < 2 ^ s.rules.length
  | 0 => Nat.two_pow_pos _
  | j + 1 => stepsM_lt (passes_lt s j) _ (Nat.le_refl _)
/-- the rules that remain -/
def minL (s : Sch) (R : Nat) : List Int := ((List.range s.rules.length).filter fun i => !R.testBit i).map fun (i : Nat) => (i : Int)
theorem minL_bits {s : Sch} {R : Nat} (hl : s.rules.length ≤ 30) (hR : R < 4294967296) : ∃ X : Nat, X < 2147483648 ∧ bits BinOp.andNot IntKind.u32 (((2 ^ s.rules.length - 1 : Nat) : Int)) (R : Int) = (X : Int) ∧ bitsOf X = minL s R := by
  have hp : (2 : Nat) ^ s.rules.length ≤ 1073741824 := Nat.le_trans (Nat.pow_le_pow_right (by omega) hl) (by decide)
  have hp1 := Nat.two_pow_pos s.rules.length
  obtain ⟨X, _, hX, hb⟩ := u32_andnot (2 ^ s.rules.length - 1) R (by omega) hR
  have hX2 : X < 2147483648 := by
    have h1 := u32_andNot_nat (2 ^ s.rules.length - 1) R (by omega) hR
    have h2 : (X : Int) = (((2 ^ s.rules.length - 1) &&& (4294967295 - R) : Nat) : Int) := hX.symm.trans h1
    have h3 : (2 ^ s.rules.length - 1) &&& (4294967295 - R) ≤ 2 ^ s.rules.length - 1 := Nat.and_le_left
    omega
  refine ⟨X, hX2, hX, ?_⟩
  unfold bitsOf upBits minL
  congr 1
  have e : List.range 31 = List.range s.rules.length ++ (List.range (31 - s.rules.length)).map (s.rules.length + ·) := by rw [← List.range_add]; congr 1; omega
  rw [e, List.filter_append]
  have h1 : (List.filter X.testBit ((List.range (31 - s.rules.length)).map (s.rules.length + ·))) = [] := by
    rw [List.filter_eq_nil_iff]
    intro a ha
    obtain ⟨b, hb', rfl⟩ := List.mem_map.1 ha
    have := List.mem_range.1 hb'
    rw [hb _ (by omega), Nat.testBit_two_pow_sub_one]
    simp only [Bool.and_eq_true, decide_eq_true_eq, not_and]
    intro h; omega
  rw [h1, List.append_nil]
  refine List.filter_congr fun a ha => ?_
  have := List.mem_range.1 ha
  rw [hb _ (by omega), Nat.testBit_two_pow_sub_one]
  simp [this]
def MinRet (s : Sch) (w : World) (e : Ending) (w' : World) : Prop := if schB s then ∃ R, MinOk s R ∧ RetSlE (minL s R) 0 w e w' else RetSlE [] 2 w e w'
/-- what Minimal finds between two steps: rm the map, vv the variable p -/
structure MW (s : Sch) (w : World) (p hm rm n : Nat) (D : DW) (vv : Nat) (O : Nat) (W : World) : Prop where
  low : Below w.heap.size w W
  k0 : Blk W w.heap.size #[.int .i64 s.places, .int .i64 s.signs, .int .i64 s.kinds, .int .i64 s.answers, s.rv] 24
  pv : Blk W vv #[.pointer (some ⟨p, 0, none⟩)] 129
  pr : PrAt W p s O hm rm
  mp : W.ownsMap Try.prog 149 (plainElem Try.prog 112) rm n D
theorem MW.stab {s : Sch} {w : World} {p hm rm n vv O B : Nat} {D : DW} (hB : w.heap.size ≤ B) (hr : rm < B) : Stab B (MW s w p hm rm n D vv O) := fun W W' row h hg hrw =>
  ⟨Stab.low hB w (Nat.le_refl _) W W' row h.low hg hrw, Stab.blk _ _ _ _ W W' row h.k0 hg hrw, Stab.blk _ _ _ _ W W' row h.pv hg hrw, Stab.blk _ _ _ _ W W' row h.pr hg hrw, Stab.ownsMap hr W W' row h.mp hg hrw⟩
theorem MW.below {s : Sch} {w : World} {p hm rm n vv O : Nat} {D : DW} {W W' : World} (h : MW s w p hm rm n D vv O W) (hb : Below W.heap.size W W') : MW s w p hm rm n D vv O W' :=
  (MW.stab h.low.size h.mp.lt).below h hb
theorem MW.set {s : Sch} {w : World} {p hm rm n vv O : Nat} {D : DW} {W : World} (h : MW s w p hm rm n D vv O W) (hp : w.heap.size < p) (hpv : vv ≠ p) (O' : Nat) : MW s w p hm rm n D vv O' (W.setCell ⟨p, 5, none⟩ (.int .u32 (O' : Int))) := by
  have hne : rm ≠ p := by
    intro e
    obtain ⟨es, clock, hb, _⟩ := h.mp
    have := h.pr
    unfold PrAt Blk at this
    rw [e, this] at hb; cases hb
  obtain ⟨es, clock, hb, hrest⟩ := h.mp
  exact ⟨h.low.setCell (by first | omega | (simp; omega) | (simp; done)) _, h.k0.far _ (by simp; omega) _, h.pv.far _ hpv _, h.pr.set 5 _, es, clock, (Below.heap_setCell W _ _ _ hne).trans hb, hrest⟩
theorem round20 (T : Array Value) (p q s : Tmp) (x y : Value) : roundAct T #[p, q] [(s, 0)] #[x, y] = { tmps := ((T.setIfInBounds p x).setIfInBounds q y).setIfInBounds s x, defers := [] } := by simp [roundAct]
def minMeas (p : Nat) (a : Act) (W : World) : Nat :=
  match W.cell? ⟨p, 5, none⟩ with
  | some v => if intOf (a.tmps.getD 6 undef) = intOf v then 0 else (4294967296 - intOf v).toNat
  | none => 0
theorem minMeas_eq {p : Nat} {a : Act} {W : World} {b x : Nat} (h : W.cell? ⟨p, 5, none⟩ = some (.int .u32 (x : Int))) (h6 : a.tmps.getD 6 undef = .int .u32 (b : Int)) : minMeas p a W = if b = x then 0 else 4294967296 - x := by
  unfold minMeas
  rw [h, h6]
  show (if (b : Int) = (x : Int) then 0 else (4294967296 - (x : Int)).toNat) = _
  by_cases e : b = x
  · subst e; simp
  · rw [if_neg (by omega), if_neg e]; omega
set_option maxRecDepth 100000 in
set_option maxHeartbeats 4000000 in
theorem minimal_any (s : Sch) (w : World) (hr : s.reads w w.heap.size) : Calls Try.prog 46 #[scv s s.rv] w (MinRet s w) := by
  by_cases vs : schB s = true
  · have V := valid_of hr.oks vs
    have HC := fun W (hW : Below w.heap.size w W) => Lib.hid (chk_any vs W ((hr.below hW).more hW.size))
    have HN := fun W (hW : Below w.heap.size w W) => Lib.hid (newPruner_any s V W ((hr.below hW).more hW.size))
    have hlen := V.len
    have HRR := Lib.hid hr
    clear hr
    refine calls_marks Try.func46 rfl ?_
    simp only [Try.ntmps46, List.size_toArray, List.length_cons, List.length_nil, Nat.reduceAdd, Nat.reduceSub, Array.replicate_succ, Array.replicate_zero, List.push_toArray, List.append_toArray, List.nil_append, List.cons_append]
    go_wp2_with fail
    refine ((HC _ (by (repeat (first | exact Below.refl _ _ | assumption | (refine Below.alloc ?_ (by first | omega | (simp; omega) | (simp; done)) _) | (refine Below.setCell ?_ (by first | omega | (simp; omega) | (simp; done)) _) | (refine Below.drew ?_) | (refine belowN ?_ _) | (refine Below.trans ?_ (Below.mono ‹Below _ _ _› (by first | omega | (simp; omega) | (simp; done)))))))).out).mono ?_
    rintro e w1 ⟨rfl, hb1⟩
    have hc1 := fun b o (h : b < w.heap.size + 1) => (bcell hb1).1 b o (by simp; omega)
    have hf1 := fun b o (h : b < w.heap.size + 1) => (bcell hb1).2 b o (by simp; omega)
    have hk1 := fun b (h : b < w.heap.size + 1) => hb1.block b (by simp; omega)
    have hz1 : w.heap.size + 1 ≤ w1.heap.size := (by have := hb1.size; simp at this; omega)
    go_wp2_with fail
    refine ((HN w1 (by (repeat (first | exact Below.refl _ _ | assumption | (refine Below.alloc ?_ (by first | omega | (simp; omega) | (simp; done)) _) | (refine Below.setCell ?_ (by first | omega | (simp; omega) | (simp; done)) _) | (refine Below.drew ?_) | (refine belowN ?_ _) | (refine Below.trans ?_ (Below.mono ‹Below _ _ _› (by first | omega | (simp; omega) | (simp; done)))))))).out).mono ?_
    rintro e w2 ⟨p, hm, rm, n, D, rfl, hP, hR, hM, hp, hb2⟩
    have hc2 := fun b o (h : b < w.heap.size + 1) => ((bcell hb2).1 b o (by omega)).trans (hc1 b o h)
    have hf2 := fun b o (h : b < w.heap.size + 1) => ((bcell hb2).2 b o (by omega)).trans (hf1 b o h)
    have hk2 := fun b (h : b < w.heap.size + 1) => (hb2.block b (by omega)).trans (hk1 b h)
    have hz2 : w.heap.size + 1 ≤ w2.heap.size := (by have := hb2.size; omega)
    have hbw2 : Below w.heap.size w w2 := by (repeat (first | exact Below.refl _ _ | assumption | (refine Below.alloc ?_ (by first | omega | (simp; omega) | (simp; done)) _) | (refine Below.setCell ?_ (by first | omega | (simp; omega) | (simp; done)) _) | (refine Below.drew ?_) | (refine belowN ?_ _) | (refine Below.trans ?_ (Below.mono ‹Below _ _ _› (by first | omega | (simp; omega) | (simp; done))))))
    have g0 : Blk w2 w.heap.size #[.int .i64 s.places, .int .i64 s.signs, .int .i64 s.kinds, .int .i64 s.answers, s.rv] 24 := (hk2 _ (by omega)).trans (Blk.at_ (by simp))
    have pc := hP.cell
    have p5 := pc 5
    simp at p5
    have hpl := hP.lt
    have hrl := hR.lt
    have HP := Lib.hid hP; have HRM := Lib.hid hR; have HB2 := Lib.hid hbw2
    clear hP hR hbw2 hb1 hb2 hk1 hk2 hf1 hf2 pc
    have hxor : bits BinOp.xor IntKind.u32 IntKind.u32.max 0 = 4294967295 := by decide
    go_wp2
    obtain ⟨vv, hvv⟩ : ∃ v, v = w2.heap.size := ⟨_, rfl⟩
    rw [← hvv]
    refine wp_world (fun W => W.heap.size = vv + 1 ∧ MW s w p hm rm n D vv 0 W) ?_ ?_
    · exact ⟨by simp [hvv], ⟨HB2.out.alloc (by omega) _, g0.alloc _, Blk.at_ hvv, HP.out.alloc _, HRM.out.alloc _⟩⟩
    have hvp : p < vv := by omega
    have hvr : rm < vv := by omega
    have hw0 : w.heap.size < vv := by omega
    have hwp : w.heap.size < p := by omega
    clear hvv g0 p5 hxor HP HRM HB2 hc1 hc2 hz1 hz2 hpl hrl hp HC HN
    rintro Wm ⟨hzm, hm0⟩
    have hp30 : (2 : Nat) ^ s.rules.length ≤ 1073741824 := Nat.le_trans (Nat.pow_le_pow_right (by omega) hlen) (by decide)
    refine wp_loop (fun a' W => ∃ (u4 u7 u8 u9 u10 u11 u12 u13 u14 u15 u16 u17 u18 u19 u20 u21 u22 u23 u24 u25 u26 u27 u28 u29 u30 u31 u32 u33 u34 u35 u36 u37 u38 u39 u40 u41 u42 u43 u44 u45 u46 u47 u48 u49 u50 u51 u52 u53 u54 u55 u56 u57 u58 u59 u60 u61 u62 u63 u64 u65 u66 u67 u68 u69 u70 u71 u72 u73 u74 : Value) (bef O j : Nat) (ds : List Deferred), (MW s w p hm rm n D vv O W ∧ vv < W.heap.size ∧ O = passes s j ∧ (bef = O → passM s O = O) ∧ bef < 4294967296 ∧ Marks Wm.heap.size W ds) ∧
      a' = { tmps := #[scv s s.rv, .pointer (some ⟨w.heap.size, 0, none⟩), .slice none 0 0, .int .i64 0, u4, .pointer (some ⟨vv, 0, none⟩), .int .u32 (bef : Int), u7, u8, u9, u10, u11, u12, u13, u14, u15, u16, u17, u18, u19, u20, u21, u22, u23, u24, u25, u26, u27, u28, u29, u30, u31, u32, u33, u34, u35, u36, u37, u38, u39, u40, u41, u42, u43, u44, u45, u46, u47, u48, u49, u50, u51, u52, u53, u54, u55, u56, u57, u58, u59, u60, u61, u62, u63, u64, u65, u66, u67, u68, u69, u70, u71, u72, u73, u74], defers := ds }) (fun a' W => minMeas p a' W) ?_ ?_
    · exact ⟨_, _, _, _, _, _, _, _, _, _, _, _, _, _, _, _, _, _, _, _, _, _, _, _, _, _, _, _, _, _, _, _, _, _, _, _, _, _, _, _, _, _, _, _, _, _, _, _, _, _, _, _, _, _, _, _, _, _, _, _, _, _, _, _, _, _, _, _, _, 4294967295, 0, 0, [], ⟨hm0, by omega, rfl, fun h => by omega, by omega, trivial⟩, rfl⟩
    · intro a' W h
      obtain ⟨u4, h⟩ := h
      obtain ⟨u7, h⟩ := h
      obtain ⟨u8, h⟩ := h
      obtain ⟨u9, h⟩ := h
      obtain ⟨u10, h⟩ := h
      obtain ⟨u11, h⟩ := h
      obtain ⟨u12, h⟩ := h
      obtain ⟨u13, h⟩ := h
      obtain ⟨u14, h⟩ := h
      obtain ⟨u15, h⟩ := h
      obtain ⟨u16, h⟩ := h
      obtain ⟨u17, h⟩ := h
      obtain ⟨u18, h⟩ := h
      obtain ⟨u19, h⟩ := h
      obtain ⟨u20, h⟩ := h
      obtain ⟨u21, h⟩ := h
      obtain ⟨u22, h⟩ := h
      obtain ⟨u23, h⟩ := h
      obtain ⟨u24, h⟩ := h
      obtain ⟨u25, h⟩ := h
      obtain ⟨u26, h⟩ := h
      obtain ⟨u27, h⟩ := h
      obtain ⟨u28, h⟩ := h
      obtain ⟨u29, h⟩ := h
      obtain ⟨u30, h⟩ := h
      obtain ⟨u31, h⟩ := h
      obtain ⟨u32, h⟩ := h
      obtain ⟨u33, h⟩ := h
      obtain ⟨u34, h⟩ := h
      obtain ⟨u35, h⟩ := h
      obtain ⟨u36, h⟩ := h
      obtain ⟨u37, h⟩ := h
      obtain ⟨u38, h⟩ := h
      obtain ⟨u39, h⟩ := h
      obtain ⟨u40, h⟩ := h
      obtain ⟨u41, h⟩ := h
      obtain ⟨u42, h⟩ := h
      obtain ⟨u43, h⟩ := h
      obtain ⟨u44, h⟩ := h
      obtain ⟨u45, h⟩ := h
      obtain ⟨u46, h⟩ := h
      obtain ⟨u47, h⟩ := h
      obtain ⟨u48, h⟩ := h
      obtain ⟨u49, h⟩ := h
      obtain ⟨u50, h⟩ := h
      obtain ⟨u51, h⟩ := h
      obtain ⟨u52, h⟩ := h
      obtain ⟨u53, h⟩ := h
      obtain ⟨u54, h⟩ := h
      obtain ⟨u55, h⟩ := h
      obtain ⟨u56, h⟩ := h
      obtain ⟨u57, h⟩ := h
      obtain ⟨u58, h⟩ := h
      obtain ⟨u59, h⟩ := h
      obtain ⟨u60, h⟩ := h
      obtain ⟨u61, h⟩ := h
      obtain ⟨u62, h⟩ := h
      obtain ⟨u63, h⟩ := h
      obtain ⟨u64, h⟩ := h
      obtain ⟨u65, h⟩ := h
      obtain ⟨u66, h⟩ := h
      obtain ⟨u67, h⟩ := h
      obtain ⟨u68, h⟩ := h
      obtain ⟨u69, h⟩ := h
      obtain ⟨u70, h⟩ := h
      obtain ⟨u71, h⟩ := h
      obtain ⟨u72, h⟩ := h
      obtain ⟨u73, h⟩ := h
      obtain ⟨u74, h⟩ := h
      obtain ⟨bef, O, j, ds, ⟨hmw, hvW, hpO, hfix, hbl, hmk⟩, ha⟩ := h
      subst ha
      have hO := passes_lt s j
      rw [← hpO] at hO
      have HMW := Lib.hid hmw; have HMK := Lib.hid hmk; have HPO := Lib.hid hpO; have HFIX := Lib.hid hfix
      have v0 := hmw.pv.cell 0
      have p5 := hmw.pr.cell 5
      have s4 := hmw.k0.cell 4
      simp at v0 p5 s4
      clear hpO hfix hmw hmk
      by_cases hbo : bef = O
      · have hq : ((bef : Int) != (O : Int)) = false := by simp [hbo]
        have HBO := Lib.hid hbo
        clear hbo
        go_wp2
        obtain ⟨nn, hnn⟩ : ∃ m, m = s.rules.length := ⟨_, rfl⟩
        have hsh := pow_mod32 nn (by omega)
        have hnn1 : (0 : Int) ≤ (nn : Int) := by omega
        have s4' : W.cell? ⟨w.heap.size, 4, none⟩ = some (.slice s.ra nn s.rc) := by rw [s4, hnn]
        have HNN := Lib.hid hnn
        clear s4 hnn
        refine wp_region_tail 11 (by kernel_rfl) (by kernel_rfl) ?_
        simp only [List.take_succ_cons, List.take_zero, List.drop_succ_cons, List.drop_zero]
        (repeat (go_big_quiet_step (fail)))
        with_reducible refine wpQuiet_nil ?_
        intro w3 hw3
        have hb3 := ext_below hw3
        clear hw3
        obtain ⟨X, hX31, hX, hXb⟩ := minL_bits hlen (Nat.lt_of_lt_of_le hO (by omega) : O < 4294967296)
        have E : bits BinOp.andNot IntKind.u32 (((2 : Int) ^ min nn 32 - 1) % 4294967296) (O : Int) = (X : Int) := by
          rw [← hX, HNN.out, Nat.min_eq_left (by omega)]
          congr 1
          have h1 : 0 < 2 ^ s.rules.length := Nat.two_pow_pos _
          have h2 : ((2 : Int) ^ s.rules.length) = ((2 ^ s.rules.length : Nat) : Int) := by simp
          rw [h2]; omega
        rw [E]
        have HXB := Lib.hid hXb
        have HL := fun W => Lib.hid (listR_any X hX31 W)
        clear E hX hXb hsh
        go_wp2_with fail
        refine ((HL _).out).mono ?_
        rintro e w4 ⟨v, rfl, hown, hb4⟩
        obtain ⟨A, c, rfl, hsl⟩ := Sl.of_own hown
        have HS := Lib.hid hsl
        have HM4 := Lib.hid ((HMK.out.below hb3).below hb4)
        have HW4 := Lib.hid ((HMW.out.below hb3).below hb4)
        have hz3 := hb3.size
        have hz4 := hb4.size
        clear hown hsl hb3 hb4
        go_wp2
        refine marks_retN (v := .tuple #[.slice A (bitsOf X).length c, .int .i64 0]) (B := Wm.heap.size) (fun W' => Below w.heap.size w W' ∧ Sl intCell 1 W' W'.heap.size A (bitsOf X)) HM4.out ⟨HW4.out.low, HS.out⟩ (fun W' D h1 h2 h3 => ?_) (fun W' h1 => ⟨by simp [results, Try.results46, go_sem], ?_⟩)
        · exact ⟨below_putObj h1.1 (by omega) h3 _, (Stab.sl (B := 0) A _).putObj _ h1.2 (Nat.zero_le _) h3 rfl⟩
        · unfold MinRet
          rw [if_pos vs]
          rw [HXB.out] at h1 ⊢
          exact ⟨O, ⟨HFIX.out HBO.out, j, HPO.out⟩, A, c, rfl, h1.2, h1.1⟩
      · have hq : ((bef : Int) != (O : Int)) = true := by simp only [bne_iff_ne, ne_eq]; omega
        have HBO := Lib.hid hbo
        clear hbo
        go_wp2
        obtain ⟨zz, hzz⟩ : ∃ z, z = W.heap.size := ⟨_, rfl⟩
        rw [← hzz]
        refine wp_world (fun W' => W'.heap.size = zz + 1 ∧ MW s w p hm rm n D vv O W' ∧ Blk W' zz #[s.rv] 22 ∧ Marks Wm.heap.size W' ds) ?_ ?_
        · have hb := (Below.refl W.heap.size W).alloc (Nat.le_refl _) (.cells #[s.rv] 22)
          exact ⟨by simp [hzz], HMW.out.below hb, Blk.at_ hzz, HMK.out.below hb⟩
        have hvz : vv < zz := by omega
        have HP5 := Lib.hid p5
        clear hzz HMW HMK v0 p5 s4 hvW
        rintro Ws ⟨hzs, hm1, hz1, hk1⟩
        have hwz := hm1.low.size
        refine wp_rangeS (lb := #[.pointer (some ⟨zz, 0, none⟩)]) rfl ent_bw1 (bw1_iter s zz hlen) [(7, 0)]
          (fun k W' => MW s w p hm rm n D vv (stepsM s O k) W' ∧ Blk W' zz #[s.rv] 22 ∧ Marks Wm.heap.size W' ds)
          (fun _ _ => False)
          (fun k => (MW.stab hwz (by omega)).and ((Stab.blk _ _ _ _).and (Marks.stab hk1 (Nat.le_refl _)))) (fun c => Stab.pure _) ?hE ?hD ⟨hm1, hz1, hk1⟩ ?hps ?hassign ?hbody ?hdone (fun D c W h => h.elim)
        case hE => exact fun k xs => Stab.pure _
        case hD => exact fun k W' hi => ⟨hi.2.1.lt, by rw [hi.2.1.cell]; rfl, ((HRR.out.below hi.1.low).more hi.1.low.size).1⟩
        case hps => rintro k W' xs ⟨q, r, _, _, rfl⟩; rfl
        case hassign =>
          rintro l k xs W' K ⟨q, r, _, _, rfl⟩ hK
          rw [round20] at hK
          rw [fold2]
          simp only [List.setIfInBounds_toArray, List.set_cons_succ, List.set_cons_zero] at hK ⊢
          gi_wp2
          exact hK
        case hbody =>
          rintro l k xs W' hk ⟨hmw, hzb, hmk⟩ ⟨q, r, hq1, _, rfl⟩ hl1 hl2
          rw [round20]
          simp only [List.setIfInBounds_toArray, List.set_cons_succ, List.set_cons_zero]
          obtain ⟨Oc, hOc⟩ : ∃ x, x = stepsM s O k := ⟨_, rfl⟩
          have hnx : stepsM s O (k + 1) = stepM s Oc q := by
            rw [hOc]; show stepM s (stepsM s O k) (s.rules.length - 1 - k) = _
            congr 1; omega
          rw [hnx]
          have hOl : Oc < 2 ^ s.rules.length := hOc ▸ stepsM_lt hO k (by omega)
          have hO32 : Oc < 4294967296 := by omega
          rw [← hOc] at hmw
          have HMW := Lib.hid hmw; have HMK := Lib.hid hmk; have HZB := Lib.hid hzb
          have v0 := hmw.pv.cell 0
          have p5 := hmw.pr.cell 5
          simp at v0 p5
          have HSM := Lib.hid (same_val V (i := q) hmw.pr hmw.mp hM ((HRR.out.below hmw.low).more hmw.low.size) hO32 (by omega))
          have hpW : p < W'.heap.size := hmw.pr.lt
          have hvW : vv < W'.heap.size := hmw.pv.lt
          have hq0 : (0 : Int) ≤ (q : Int) := by omega
          have hbit0 := u32_is0 Oc q hO32
          clear hOc hnx hmw hmk hzb
          by_cases hbit : Oc.testBit q = true
          · rw [hbit] at hbit0
            have hbit0 : (bits BinOp.and IntKind.u32 ((Oc : Int) / 2 ^ q) 1 == 0) = false := hbit0
            have HST : Hid (stepM s Oc q = Oc) := (by simp [stepM, hbit] : stepM s Oc q = Oc)
            clear hbit HSM
            gi_wp2
            refine ⟨trivial, ?_⟩
            gi_wp2
            exact ⟨KeepsFrom.refl _ _, by rw [HST.out]; exact HMW.out, HZB.out, HMK.out⟩
          · simp only [Bool.not_eq_true] at hbit
            rw [hbit] at hbit0
            have hbit0 : (bits BinOp.and IntKind.u32 ((Oc : Int) / 2 ^ q) 1 == 0) = true := hbit0
            by_cases hsm : sameB s (Oc ||| 2 ^ q) = true
            · rw [hsm] at HSM
              have HST : Hid (stepM s Oc q = Oc ||| 2 ^ q) := (by simp [stepM, hbit, hsm] : stepM s Oc q = Oc ||| 2 ^ q)
              have hsh := pow_mod32 q (by omega)
              have hpi : (2 : Nat) ^ q ≤ 2147483648 := pow_le_bset (by omega)
              have hor : bits BinOp.or IntKind.u32 (Oc : Int) ((2 : Int) ^ q) = ((Oc ||| 2 ^ q : Nat) : Int) := by have := u32or Oc (2 ^ q) hO32 (by omega); simpa using this
              clear hbit hsm
              gi_wp2
              refine ⟨trivial, (CallsIn.inRound l (callsIn_wide.2 HSM.out)).mono ?_⟩
              rintro e W2 ⟨rfl, hb2⟩
              have HM2 := Lib.hid (HMW.out.below hb2); have HK2 := Lib.hid (HMK.out.below hb2); have HZ2 := Lib.hid (HZB.out.below hb2 HZB.out.lt)
              have HB2 := Lib.hid hb2
              have v1 := HM2.out.pv.cell 0
              have p6 := HM2.out.pr.cell 5
              have f6 := HM2.out.pr.free 5
              have l1 := hb2.size
              simp at v1 p6
              clear hb2 v0 p5
              gi_wp2
              refine wpIn_region_tail 11 (by kernel_rfl) (by kernel_rfl) (by kernel_rfl) ?_
              simp only [List.take_succ_cons, List.take_zero, List.drop_succ_cons, List.drop_zero]
              (repeat (go_big_quiet_step (fail)))
              with_reducible refine wpQuiet_nil ?_
              intro W3 hw3
              have hb3 := ext_below hw3
              have HB3 := Lib.hid hb3
              have HM3 := Lib.hid (HM2.out.below hb3); have HK3 := Lib.hid (HK2.out.below hb3); have HZ3 := Lib.hid (HZ2.out.below hb3 HZ2.out.lt)
              have v2 := HM3.out.pv.cell 0
              have p7 := HM3.out.pr.cell 5
              have f7 := HM3.out.pr.free 5
              simp at v2 p7
              clear hw3 hb3 v1 p6 f6
              gi_wp2
              exact ⟨((keepsFrom_below HB2.out).trans (keepsFrom_below HB3.out)).trans ((KeepsOthers.setCell _ _ _).from _), by rw [HST.out]; exact HM3.out.set hwp (by omega) _, HZ3.out.far _ (by simp; omega) _,
                HK3.out.keep fun D' hD' hw' => (KeepsOthers.setCell _ _ _).same D' _ hw' rfl⟩
            · simp only [Bool.not_eq_true] at hsm
              rw [hsm] at HSM
              have HST : Hid (stepM s Oc q = Oc) := (by simp [stepM, hsm] : stepM s Oc q = Oc)
              clear hbit hsm
              gi_wp2
              refine ⟨trivial, (CallsIn.inRound l (callsIn_wide.2 HSM.out)).mono ?_⟩
              rintro e W2 ⟨rfl, hb2⟩
              have HM2 := Lib.hid (HMW.out.below hb2); have HK2 := Lib.hid (HMK.out.below hb2); have HZ2 := Lib.hid (HZB.out.below hb2 HZB.out.lt)
              have HB2 := Lib.hid hb2
              clear hb2 v0 p5
              gi_wp2
              exact ⟨keepsFrom_below HB2.out, by rw [HST.out]; exact HM2.out, HZ2.out, HK2.out⟩
        case hdone =>
          rintro DD W' ⟨hmw, hzb, hmk⟩ hDD hK
          have HMP := Lib.hid (hk1.push hmk (by omega) hDD hK)
          have HMW := Lib.hid hmw
          have hvW : vv < W'.heap.size := hmw.pv.lt
          have hPS : passM s O = passes s (j + 1) := by rw [HPO.out]; rfl
          have HPS := Lib.hid hPS
          have hle := stepsM_le s O s.rules.length
          have hlt := stepsM_lt hO s.rules.length (Nat.le_refl _)
          clear hmw hzb hmk hK hPS
          go_wp2
          refine ⟨⟨_, _, _, _, _, _, _, _, _, _, _, _, _, _, _, _, _, _, _, _, _, _, _, _, _, _, _, _, _, _, _, _, _, _, _, _, _, _, _, _, _, _, _, _, _, _, _, _, _, _, _, _, _, _, _, _, _, _, _, _, _, _, _, _, _, _, _, _, _, O, stepsM s O s.rules.length, j + 1, _, ⟨HMW.out, hvW, HPS.out, fun h => ?_, by omega, HMP.out⟩, rfl⟩, ?_⟩
          · have h2 : passM s O = O := h.symm
            show passM s (passM s O) = passM s O
            rw [h2, h2]
          · rw [minMeas_eq (b := O) (x := stepsM s O s.rules.length) (by rw [HMW.out.pr.cell]; rfl) rfl, minMeas_eq (b := bef) (x := O) HP5.out rfl, if_neg HBO.out]
            split <;> omega
  · simp only [Bool.not_eq_true] at vs
    have HC := fun W (hW : Below w.heap.size w W) => Lib.hid (chk_any vs W ((hr.below hW).more hW.size))
    go_enter Try.func46, Try.ntmps46
    go_wp2_with fail
    refine ((HC _ (by (repeat (first | exact Below.refl _ _ | assumption | (refine Below.alloc ?_ (by first | omega | (simp; omega) | (simp; done)) _) | (refine Below.setCell ?_ (by first | omega | (simp; omega) | (simp; done)) _) | (refine Below.drew ?_) | (refine belowN ?_ _) | (refine Below.trans ?_ (Below.mono ‹Below _ _ _› (by first | omega | (simp; omega) | (simp; done)))))))).out).mono ?_
    rintro e w1 ⟨rfl, hb1⟩
    go_wp2
    go_ret2
    unfold MinRet
    rw [vs]
    exact retSlE_nil (by (repeat (first | exact Below.refl _ _ | assumption | (refine Below.alloc ?_ (by first | omega | (simp; omega) | (simp; done)) _) | (refine Below.setCell ?_ (by first | omega | (simp; omega) | (simp; done)) _) | (refine Below.drew ?_) | (refine belowN ?_ _) | (refine Below.trans ?_ (Below.mono ‹Below _ _ _› (by first | omega | (simp; omega) | (simp; done)))))))
end Go.Proofs.Ytidlmbajpbbilaa

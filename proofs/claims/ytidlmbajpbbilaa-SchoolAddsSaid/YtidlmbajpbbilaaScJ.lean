/- School: speak. -/
import Derived.Test.YtidlmbajpbbilaaScI
import Derived.StillTailTactics
namespace Go.Proofs.Ytidlmbajpbbilaa
open Go.RowKit

set_option maxRecDepth 100000 in
set_option maxHeartbeats 4000000 in
theorem speak_any (s : Sch) (R : Value) (hR : R = s.rv) (H O : Nat) (hH : H < 4294967296) (hO : O < 4294967296) (kind : Int) (hk0 : 0 ≤ kind) (hk1 : kind < s.kinds) (w : World) (hv : Valid s) (hr : s.reads w w.heap.size) :
    Calls Try.prog 56 #[rdv s R (O : Int), .int .u32 (H : Int), .int .i64 kind] w fun e w' =>
      e = .returned (.int .u32 ((bset (mainS s (sp s (fun i => H.testBit i && !O.testBit i) kind) s.rules.length) s.rules.length : Nat) : Int)) ∧ Below w.heap.size w w' := by
  obtain ⟨hr0, hl', hrr⟩ := hr
  have hlen := hv.len
  obtain ⟨hold, hhold⟩ : ∃ h : Nat → Bool, h = fun i => H.testBit i && !O.testBit i := ⟨_, rfl⟩
  rw [← hhold]
  have HR := fun (j : Nat) (hj : j < s.rules.length) => Lib.hid (spkRound hv hold kind j hj)
  have HOK := fun (j : Nat) (hj : j < s.rules.length) => Lib.hid (hv.rule j hj)
  obtain ⟨f, hf⟩ : ∃ f, f = sp s hold kind := ⟨_, rfl⟩
  rw [← hf] at HR ⊢
  clear hf
  have hkk := hv.kinds
  obtain ⟨X, hX, hXe, hXb⟩ := u32_andnot H O hH hO
  have HX0 : ∀ j, j < 32 → Hid ((bits BinOp.and IntKind.u32 ((X : Int) / 2 ^ j) 1 == 0) = !hold j) := fun j hj => by
    show _ = _
    rw [u32_is0 X j hX, hXb j hj, hhold]
  have HU : ∀ (W : World) (V : Nat) (r : Rul) (B : Nat), r ∈ s.rules → Below w.heap.size w W → V < 4294967296 → W.cell? ⟨B, 0, none⟩ = some (.int .u32 (V : Int)) → B < W.heap.size → (∀ u ∈ r.unless_, 0 ≤ u ∧ u < 32) →
      Hid (Calls Try.prog 86 #[.slice r.ua r.unless_.length r.uc, .func (.func 87) #[] #[.pointer (some ⟨B, 0, none⟩)]] W fun e w' => e = .returned (.bool (r.unless_.any fun u => V.testBit u.toNat)) ∧ Below W.heap.size W w') :=
    fun W V r B hr hW hV hc hB hu => unl_any V hV r B W hc hB hu (hrr r hr).2.2.2.1 (((hrr r hr).2.1.below hW).more hW.size)
  have HRnk := Lib.hid (show ∀ i, rnk s i = rnk s i from fun _ => rfl)
  clear hrr hv hhold hXb hl' hH hO
  have HXe := hXe
  clear hXe
  obtain ⟨pl, sg, k, a, ra, rc, rs⟩ := s
  obtain ⟨S, hS⟩ : ∃ S : Sch, S = ⟨pl, sg, k, a, ra, rc, rs⟩ := ⟨_, rfl⟩
  rw [← hS] at HR HOK HRnk ⊢
  have hSr : S.rules = rs := by rw [hS]
  simp only at *
  subst hR
  have HR0 := Lib.hid hr0
  clear hr0
  obtain ⟨m, hm⟩ : ∃ m, m = rs.length := ⟨_, rfl⟩
  have HSR := Lib.hid hSr
  have HSK : Hid (S.kinds = k) := (by rw [hS] : S.kinds = k)
  have HM := Lib.hid hm
  have HHR := Lib.hid HR; have HHOK := Lib.hid HOK; have HHU := Lib.hid HU; have HHX := Lib.hid HX0
  rw [hSr, ← hm]
  rw [← hm] at hlen
  simp only [rdv, hS, Sch.rv, ← hm]
  rw [← hS]
  clear hm hSr HR HOK HU HX0 hS
  go_enter Try.func56, Try.ntmps56
  go_wp2
  obtain ⟨W0, hW0⟩ : ∃ W0, W0 = (w.alloc (Obj.cells #[Value.int IntKind.i64 pl, Value.int IntKind.i64 sg, Value.int IntKind.i64 k, Value.int IntKind.i64 a, Value.slice ra m rc, Value.int IntKind.u32 (O : Int)] 108)).alloc (Obj.cells #[Value.int IntKind.u32 0] 106) := ⟨_, rfl⟩
  have hwW : Below w.heap.size w W0 := by rw [hW0]; (repeat (first | exact Below.refl _ _ | assumption | (refine Below.alloc ?_ (by first | omega | (simp; omega) | (simp; done)) _) | (refine Below.setCell ?_ (by first | omega | (simp; omega) | (simp; done)) _) | (refine Below.drew ?_) | (refine belowN ?_ _) | (refine Below.trans ?_ (Below.mono ‹Below _ _ _› (by first | omega | (simp; omega) | (simp; done))))))
  have hW5 : W0.cell? ⟨w.heap.size, 5, none⟩ = some (.int .u32 (O : Int)) := by rw [hW0]; simp [go_sem]
  have hWs : W0.heap[w.heap.size + 1]? = some (.cells #[.int .u32 0] 106 (0, 0)) := by
    have h := heap_alloc_new (w.alloc (Obj.cells #[Value.int IntKind.i64 pl, Value.int IntKind.i64 sg, Value.int IntKind.i64 k, Value.int IntKind.i64 a, Value.slice ra m rc, Value.int IntKind.u32 (O : Int)] 108)) (Obj.cells #[Value.int IntKind.u32 0] 106)
    rw [World.size_alloc] at h; rw [hW0]; exact h
  have hWz : W0.heap.size = w.heap.size + 2 := by rw [hW0]; simp
  rw [← hW0]
  have HW5 := Lib.hid hW5; have HWs := Lib.hid hWs; have HWz := Lib.hid hWz
  clear hW0 hW5 hWs hWz
  go_loopw [6, 7, 15] (fun l rk i wr => ∃ j : Nat, j ≤ m ∧ i = .int .i64 j ∧ rk = .int .i64 (topR S f j) ∧ l = .int .u32 ((bset (mainS S f j) j : Nat) : Int) ∧ Below (w.heap.size + 1) W0 wr ∧ Hid (wr.heap[w.heap.size + 1]? = some (.cells #[.int .u32 ((bset f j : Nat) : Int)] 106 (0, 0)))) (fun _ _ i _ => m - (intOf i).toNat)
  case atStart => exact ⟨0, by omega, rfl, rfl, rfl, Below.refl _ _, HWs.out⟩
  case round =>
    obtain ⟨j, hj, rfl, rfl, rfl, hb, HSB⟩ := hrel
    have hsz : w.heap.size + 2 ≤ wr.heap.size := by have := hb.size; rw [HWz.out] at this; exact this
    have hbw : Below w.heap.size w wr := hwW.trans (hb.mono (by omega))
    have hne1 : ¬ w.heap.size = wr.heap.size := by omega
    have hne2 : ¬ w.heap.size + 1 = wr.heap.size := by omega
    by_cases hlt : j < m
    · have hlt2 : j < rs.length := HM.out ▸ hlt
      obtain ⟨ab, ao, rfl, hblk, hcell⟩ := (Sl.below HR0.out hbw).at_ (k := j) (fun _ => rfl) hlt2
      have hlt3 : j < S.rules.length := by rw [HSR.out]; exact hlt2
      have HRj := HHR.out j hlt3
      have HOj := HHOK.out j hlt3
      obtain ⟨r, hr⟩ : ∃ t, S.rules[j] = t := ⟨_, rfl⟩
      have hr' : rs[j] = r := by rw [← hr]; congr 1; exact HSR.out.symm
      rw [hr'] at hcell
      rw [hr] at HRj HOj
      have c0 : wr.cell? ⟨ab, ao + j * 5, none⟩ = some (.slice r.wa r.when_.length r.wc) := hcell 0 _ rfl
      have c1 : wr.cell? ⟨ab, ao + j * 5 + 1, none⟩ = some (.int .i64 r.kinds) := hcell 1 _ rfl
      have c2 : wr.cell? ⟨ab, ao + j * 5 + 2, none⟩ = some (.int .i64 r.rank) := hcell 2 _ rfl
      have c3 : wr.cell? ⟨ab, ao + j * 5 + 3, none⟩ = some (.slice r.ua r.unless_.length r.uc) := hcell 3 _ rfl
      have c4 : wr.cell? ⟨ab, ao + j * 5 + 4, none⟩ = some (.int .i64 r.says) := hcell 4 _ rfl
      have cO : wr.cell? ⟨w.heap.size, 5, none⟩ = some (.int .u32 (O : Int)) := by rw [hb.cell (p := ⟨w.heap.size, 5, none⟩) (by simp)]; exact HW5.out
      have cOo : ∀ o, (wr.alloc o).cell? ⟨w.heap.size, 5, none⟩ = some (.int .u32 (O : Int)) := fun o => by rw [World.cell?_alloc_lt _ _ _ (by simp; omega)]; exact cO
      have cS : wr.cell? ⟨w.heap.size + 1, 0, none⟩ = some (.int .u32 ((bset f j : Nat) : Int)) := cell_of_one HSB.out
      have fS : wr.frozen? ⟨w.heap.size + 1, 0, none⟩ = false := free_of_one HSB.out
      have hkd : 0 ≤ r.kinds ∧ r.kinds < 16 := by
        refine ⟨HOj.out.kinds.1, Int.lt_of_lt_of_le HOj.out.kinds.2 ?_⟩
        obtain h | h | h | h : k = 1 ∨ k = 2 ∨ k = 3 ∨ k = 4 := by omega
        all_goals (rw [HSK.out, h]; decide)
      have q2 := i64_is0 r kind hkd.1 hkd.2
      have hf31 : bset f j < 2147483648 := Nat.lt_of_lt_of_le (bset_lt f j) (pow_le_bset (by omega))
      have HUN := fun (W : World) h1 h2 h3 => HHU.out W (bset f j) r (w.heap.size + 1) (HSR.out ▸ HRj.out.mem) h1 (by omega) h2 h3 (fun u hu => by have := HOj.out.unl u hu; omega)
      have HUNN := Lib.hid HUN
      have q1 := (HHX.out j (by omega)).out
      clear hcell hr hr' HHU HUN
      by_cases hh : hold j = true
      · rw [hh] at q1
        simp only [Bool.not_true] at q1
        by_cases hkb : kbit r kind = true
        · rw [hkb] at q2
          simp only [Bool.not_true] at q2
          go_wp2_with fail
          refine (HUNN.out _ ?_ ?_ ?_).out.mono ?_
          · (repeat (first | exact Below.refl _ _ | assumption | (refine Below.alloc ?_ (by first | omega | (simp; omega) | (simp; done)) _) | (refine Below.setCell ?_ (by first | omega | (simp; omega) | (simp; done)) _) | (refine Below.drew ?_) | (refine belowN ?_ _) | (refine Below.trans ?_ (Below.mono ‹Below _ _ _› (by first | omega | (simp; omega) | (simp; done))))))
          · rw [World.cell?_alloc_lt _ _ _ (by simp; omega)]; exact cS
          · exact (by first | omega | (simp; omega) | (simp; done))
          rintro e w2 ⟨rfl, hb2⟩
          have hz2 : w.heap.size + 2 ≤ w2.heap.size := by have := hb2.size; simp at this; omega
          by_cases hun : (r.unless_.any fun u => (bset f j).testBit u.toNat) = true
          · rw [hun]
            have hfj : Hid (f j = false) := by show _ = _; rw [HRj.out.eq, hun]; simp
            have HSB2 : Hid (w2.heap[w.heap.size + 1]? = some (.cells #[.int .u32 ((bset f j : Nat) : Int)] 106 (0, 0))) := by
              show _ = _
              rw [hb2.block _ (by simp; omega), Below.heap_alloc _ _ _ (by omega)]; exact HSB.out
            go_wp2
            go_roundw
            case rel => exact ⟨j + 1, by omega, by go_num, by rw [(main_old (s := S) (n := j) (.inl hfj.out)).1], by rw [(main_old (s := S) (n := j) (.inl hfj.out)).2], by (repeat (first | exact Below.refl _ _ | assumption | (refine Below.alloc ?_ (by first | omega | (simp; omega) | (simp; done)) _) | (refine Below.setCell ?_ (by first | omega | (simp; omega) | (simp; done)) _) | (refine Below.drew ?_) | (refine belowN ?_ _) | (refine Below.trans ?_ (Below.mono ‹Below _ _ _› (by first | omega | (simp; omega) | (simp; done)))))), by rw [bset_same hfj.out]; exact HSB2⟩
            case measure => simp [intOf]; omega
          · simp only [Bool.not_eq_true] at hun
            have hfj : Hid (f j = true) := by show _ = _; rw [HRj.out.eq, hun, hh, hkb]; rfl
            have hblk2 : w2.heap[w.heap.size + 1]? = some (.cells #[.int .u32 ((bset f j : Nat) : Int)] 106 (0, 0)) := by
              rw [hb2.block _ (by simp; omega), Below.heap_alloc _ _ _ (by omega)]; exact HSB.out
            have cS2 : w2.cell? ⟨w.heap.size + 1, 0, none⟩ = some (.int .u32 ((bset f j : Nat) : Int)) := cell_of_one hblk2
            have fS2 : w2.frozen? ⟨w.heap.size + 1, 0, none⟩ = false := free_of_one hblk2
            have HB2 := Lib.hid hblk2
            have cR2 : w2.cell? ⟨wr.heap.size, 2, none⟩ = some (.int .i64 r.rank) := by rw [hb2.cell (p := ⟨wr.heap.size, 2, none⟩) (by simp)]; simp [go_sem]
            have hor := bset_succ_or f j (by omega)
            have hkeep : Below (w.heap.size + 1) W0 w2 := by (repeat (first | exact Below.refl _ _ | assumption | (refine Below.alloc ?_ (by first | omega | (simp; omega) | (simp; done)) _) | (refine Below.setCell ?_ (by first | omega | (simp; omega) | (simp; done)) _) | (refine Below.drew ?_) | (refine belowN ?_ _) | (refine Below.trans ?_ (Below.mono ‹Below _ _ _› (by first | omega | (simp; omega) | (simp; done))))))
            rw [hun]
            clear hblk2
            obtain ⟨T, hT⟩ : ∃ T, T = topR S f j := ⟨_, rfl⟩
            obtain ⟨M, hM⟩ : ∃ M, M = bset (mainS S f j) j := ⟨_, rfl⟩
            rw [← hT, ← hM]
            have HT := Lib.hid hT; have HMM := Lib.hid hM
            clear hT hM
            have hrk := HRj.out.rnk
            have HRK := Lib.hid hrk
            have hMl : M < 4294967296 := by
              rw [HMM.out]; exact Nat.lt_of_lt_of_le (bset_lt _ _) (Nat.le_trans (pow_le_bset (by omega)) (by decide))
            have hor2 : bits BinOp.or IntKind.u32 (M : Int) (2 ^ j % 4294967296) = ((M ||| 2 ^ j : Nat) : Int) := by rw [HMM.out]; exact bset_succ_or' _ j (by omega)
            have HBN : Hid (∀ W : World, W.heap = (w2.setCell ⟨w.heap.size + 1, 0, none⟩ (Value.int IntKind.u32 ((bset f j ||| 2 ^ j : Nat) : Int))).heap → W.heap[w.heap.size + 1]? = some (.cells #[.int .u32 ((bset f (j + 1) : Nat) : Int)] 106 (0, 0))) := fun W hW => by
              rw [hW, ← bset_next hfj.out]; exact one_setCell HB2.out
            clear hrk
            rcases Int.lt_trichotomy T r.rank with hlt4 | heq | hgt
            · have d1 : decide (T < r.rank) = true := by simpa using hlt4
              have HN := Lib.hid (main_new (s := S) (f := f) (n := j) hfj.out (by rw [← HT.out, HRK.out]; exact hlt4))
              go_wp2
              go_region
              go_wp2
              go_quiet (fail)
              go_wp2
              go_roundw
              case rel => exact ⟨j + 1, by omega, by go_num, by rw [HN.out.1, HRK.out], by rw [HN.out.2, pow_mod32 j (by omega)], by (repeat (first | exact Below.refl _ _ | assumption | (refine Below.alloc ?_ (by first | omega | (simp; omega) | (simp; done)) _) | (refine Below.setCell ?_ (by first | omega | (simp; omega) | (simp; done)) _) | (refine Below.drew ?_) | (refine belowN ?_ _) | (refine Below.trans ?_ (Below.mono ‹Below _ _ _› (by first | omega | (simp; omega) | (simp; done)))))), HBN.out _ rfl⟩
              case measure => simp [intOf]; omega
            · have d1 : decide (T < r.rank) = false := by simp; omega
              have d2 : (r.rank == T) = true := by simp [heq]
              have HN := Lib.hid (main_add (s := S) (f := f) (n := j) hfj.out (by rw [← HT.out, HRK.out]; exact heq))
              clear heq
              go_wp2
              go_region
              go_wp2
              go_roundw
              case rel => exact ⟨j + 1, by omega, by go_num, by rw [HN.out.1, HT.out], by rw [HN.out.2, HMM.out], by (repeat (first | exact Below.refl _ _ | assumption | (refine Below.alloc ?_ (by first | omega | (simp; omega) | (simp; done)) _) | (refine Below.setCell ?_ (by first | omega | (simp; omega) | (simp; done)) _) | (refine Below.drew ?_) | (refine belowN ?_ _) | (refine Below.trans ?_ (Below.mono ‹Below _ _ _› (by first | omega | (simp; omega) | (simp; done)))))), HBN.out _ rfl⟩
              case measure => simp [intOf]; omega
            · have d1 : decide (T < r.rank) = false := by simp; omega
              have d2 : (r.rank == T) = false := by simp; omega
              have HN := Lib.hid (main_old (s := S) (f := f) (n := j) (.inr (by rw [← HT.out, HRK.out]; exact hgt)))
              go_wp2
              go_region
              go_wp2
              go_roundw
              case rel => exact ⟨j + 1, by omega, by go_num, by rw [HN.out.1, HT.out], by rw [HN.out.2, HMM.out], by (repeat (first | exact Below.refl _ _ | assumption | (refine Below.alloc ?_ (by first | omega | (simp; omega) | (simp; done)) _) | (refine Below.setCell ?_ (by first | omega | (simp; omega) | (simp; done)) _) | (refine Below.drew ?_) | (refine belowN ?_ _) | (refine Below.trans ?_ (Below.mono ‹Below _ _ _› (by first | omega | (simp; omega) | (simp; done)))))), HBN.out _ rfl⟩
              case measure => simp [intOf]; omega
        · simp only [Bool.not_eq_true] at hkb
          rw [hkb] at q2
          have hfj : Hid (f j = false) := by show _ = _; rw [HRj.out.eq, hkb]; simp
          go_wp2
          go_roundw
          case rel => exact ⟨j + 1, by omega, by go_num, by rw [(main_old (s := S) (n := j) (.inl hfj.out)).1], by rw [(main_old (s := S) (n := j) (.inl hfj.out)).2], by (repeat (first | exact Below.refl _ _ | assumption | (refine Below.alloc ?_ (by first | omega | (simp; omega) | (simp; done)) _) | (refine Below.setCell ?_ (by first | omega | (simp; omega) | (simp; done)) _) | (refine Below.drew ?_) | (refine belowN ?_ _) | (refine Below.trans ?_ (Below.mono ‹Below _ _ _› (by first | omega | (simp; omega) | (simp; done)))))), by rw [bset_same hfj.out]; exact (Below.heap_alloc _ _ _ (by omega)).trans HSB.out⟩
          case measure => simp [intOf]; omega
      · simp only [Bool.not_eq_true] at hh
        rw [hh] at q1
        have hfj : Hid (f j = false) := by show _ = _; rw [HRj.out.eq, hh]; simp
        go_wp2
        go_roundw
        case rel => exact ⟨j + 1, by omega, by go_num, by rw [(main_old (s := S) (n := j) (.inl hfj.out)).1], by rw [(main_old (s := S) (n := j) (.inl hfj.out)).2], by (repeat (first | exact Below.refl _ _ | assumption | (refine Below.alloc ?_ (by first | omega | (simp; omega) | (simp; done)) _) | (refine Below.setCell ?_ (by first | omega | (simp; omega) | (simp; done)) _) | (refine Below.drew ?_) | (refine belowN ?_ _) | (refine Below.trans ?_ (Below.mono ‹Below _ _ _› (by first | omega | (simp; omega) | (simp; done)))))), by rw [bset_same hfj.out]; exact (Below.heap_alloc _ _ _ (by omega)).trans HSB.out⟩
        case measure => simp [intOf]; omega
    · obtain rfl : j = m := by omega
      go_wp2
      go_ret
      exact ⟨rfl, hbw⟩
end Go.Proofs.Ytidlmbajpbbilaa

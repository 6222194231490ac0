/- habit: the law HabitDecks. -/
import Derived.Test.YtiikkcifdhcejaaLc
namespace Go.Proofs.Ytiikkcifdhcejaa
open Go.RowKit

abbrev byteCell (b : Int) : List Value := [.int .u8 b]
theorem Sl.byte_at {W : World} {B : Nat} {A : Option Addr} {l : List Int} (h : Sl byteCell 1 W B A l) {k : Nat} (hk : k < l.length) : ∃ b o, A = some ⟨b, o, none⟩ ∧ b < B ∧ W.cell? ⟨b, o + k, none⟩ = some (.int .u8 l[k]) := by
  obtain ⟨b, o, e, hb, hc⟩ := h.at_ (fun _ => rfl) hk
  exact ⟨b, o, e, hb, by have := hc 0 _ rfl; simpa using this⟩
/-- the cards, and the casts, that bytes tell -/
def rowD (cs : List Int) : List Int := cs.map (· % 9)
def regD (n : Nat) (xs : List Int) : List Int := xs.map (· % (n : Int))
theorem rowD_len (cs : List Int) : (rowD cs).length = cs.length := by simp [rowD]
theorem regD_len (n : Nat) (xs : List Int) : (regD n xs).length = xs.length := by simp [regD]
theorem rowD_take {cs : List Int} {i : Nat} (hi : i < cs.length) : (rowD cs).take (i + 1) = (rowD cs).take i ++ [cs[i] % 9] := by
  rw [List.take_succ_eq_append_getElem (by rw [rowD_len]; exact hi)]; simp [rowD]
theorem regD_take {n : Nat} {xs : List Int} {i : Nat} (hi : i < xs.length) : (regD n xs).take (i + 1) = (regD n xs).take i ++ [xs[i] % (n : Int)] := by
  rw [List.take_succ_eq_append_getElem (by rw [regD_len]; exact hi)]; simp [regD]
theorem sumL_snoc1 (l : List Int) (x : Int) : sumL (l ++ [x]) = sumL l + x := by
  rw [← totI_sumL, ← totI_sumL]; exact totI_snoc x l
theorem rowD_bd {cs : List Int} : ∀ x ∈ rowD cs, 0 ≤ x ∧ x ≤ 8 := fun x hx => by
  obtain ⟨y, _, rfl⟩ := List.mem_map.1 hx
  omega
theorem rowD_sum {cs : List Int} (i : Nat) : 0 ≤ sumL ((rowD cs).take i) ∧ sumL ((rowD cs).take i) ≤ 8 * (i : Int) := by
  rw [← totI_sumL]
  have h := fun x (hx : x ∈ (rowD cs).take i) => rowD_bd x (List.mem_of_mem_take hx)
  refine ⟨totI_nn fun x hx => (h x hx).1, ?_⟩
  have h1 := totI_le (r := (rowD cs).take i) fun x hx => (h x hx).2
  have h2 : ((rowD cs).take i).length ≤ i := by rw [List.length_take]; omega
  omega
theorem ownSl2 {w : World} {b : Nat} {e : TypeId} {size : Nat} {v : Value} {n : Nat} {xs : List Value} (h : w.ownsRow b e size v n xs) : ∃ A c, v = .slice A n c := by
  rcases h.2 with ⟨h1, h2⟩ | ⟨g, cap, cur, h1, _⟩
  · exact ⟨none, 0, by rw [h1, h2]⟩
  · exact ⟨_, cap, h1⟩
theorem apart_of {v v' : Value} {b Z : Nat} (h1 : ∀ g, v.ownBlock = some g → g ≠ b ∧ g < Z) (h2 : ∀ g, v'.ownBlock = some g → g = b ∨ Z ≤ g) : v.ownBlock = none ∨ v.ownBlock ≠ v'.ownBlock := by
  cases hv : v.ownBlock with
  | none => exact .inl rfl
  | some g =>
    right
    intro e
    have a1 := h1 g hv
    have a2 := h2 g e.symm
    omega
/-- a deck excludes no cast just if it has what is needed -/
theorem decks_plain {row l : List Int} {a : Nat} (hr : ∀ x ∈ row, 0 ≤ x ∧ x ≤ 8) (h1 : 1 ≤ row.length) (h8 : row.length ≤ 8) (ha : 1 ≤ a) (has : (a : Int) ≤ sumL row) (hl : l.length ≤ 100) (hreg : ∀ x ∈ l, 0 ≤ x ∧ x < (row.length : Int)) :
    ∃ v : Int, exclR ⟨3, [row], (a : Int)⟩ l = (v, 0) ∧ (v = -1 ↔ ∀ y, y < row.length → (needF l row.length a (casts l.length a)).getD y 0 ≤ row.getD y 0) := by
  have hok : ModOk ⟨3, [row], (a : Int)⟩ := by
    refine ⟨h1, by show row.length ≤ 32; omega, fun r hr' => ?_, .inr (.inr ⟨rfl, rfl, by show (1 : Int) ≤ (a : Int); omega, by rw [show HMd.row0 ⟨3, [row], (a : Int)⟩ = row from rfl, totI_sumL]; exact has⟩)⟩
    rw [List.mem_singleton.1 hr']
    exact ⟨rfl, fun x hx => by have := hr x hx; omega, by rw [totI_sumL]; omega⟩
  have hE : regsE [⟨3, [row], (a : Int)⟩] l = 0 := by
    unfold regsE
    rw [if_pos (by unfold modsB; simp [modB_iff.2 hok, outs0])]
    unfold inE limI
    rw [if_neg (by omega), if_neg]
    rintro ⟨_, h9⟩
    rw [List.any_eq_true] at h9
    obtain ⟨x, hx, h9⟩ := h9
    have := hreg x hx
    have h10 : outB ((row.length : Nat) : Int) x = true := h9
    unfold outB at h10
    simp at h10
    omega
  refine ⟨exclGo ⟨3, [row], (a : Int)⟩ l 0 l.length, by unfold exclR; rw [if_pos hE], ?_⟩
  have hJ : l.length ≤ casts l.length a * a := by
    rcases Nat.lt_or_ge (casts l.length a * a) l.length with h | h
    · exact absurd ((casts_lt ha).2 h) (Nat.lt_irrefl _)
    · exact h
  rw [← deck_need (k := 3) rfl (by omega) hreg (fun w hw => (hr w hw).1) hJ]
  constructor
  · intro hv i hi h0
    -- the first one
    have hex : ∃ i, i < l.length ∧ (wtI ⟨3, [row], (a : Int)⟩ l i).1 = 0 ∧ ∀ j, j < i → (wtI ⟨3, [row], (a : Int)⟩ l j).1 ≠ 0 := by
      have key : ∀ m, (∃ i, i ≤ m ∧ i < l.length ∧ (wtI ⟨3, [row], (a : Int)⟩ l i).1 = 0) → ∃ i, i < l.length ∧ (wtI ⟨3, [row], (a : Int)⟩ l i).1 = 0 ∧ ∀ j, j < i → (wtI ⟨3, [row], (a : Int)⟩ l j).1 ≠ 0 := by
        intro m
        induction m with
        | zero => rintro ⟨i, h1, h2, h3⟩; exact ⟨i, h2, h3, fun j hj => by omega⟩
        | succ m ih =>
          rintro ⟨i, h1, h2, h3⟩
          by_cases hq : ∃ i, i ≤ m ∧ i < l.length ∧ (wtI ⟨3, [row], (a : Int)⟩ l i).1 = 0
          · exact ih hq
          · exact ⟨i, h2, h3, fun j hj h4 => hq ⟨j, by omega, by omega, h4⟩⟩
      exact key i ⟨i, Nat.le_refl _, hi, h0⟩
    obtain ⟨i, h2, h3, h4⟩ := hex
    rw [exclGo_some h3 _ _ (Nat.zero_le _) (by omega) (fun j _ hj => h4 j hj)] at hv
    omega
  · intro hall
    exact exclGo_none _ _ fun j _ hj => hall j (by omega)
/-- the first k outcomes have enough cards -/
def enB (row nd : List Int) (k : Nat) : Bool := (List.range k).all fun y => decide (nd.getD y 0 ≤ row.getD y 0)
theorem enB_succ (row nd : List Int) (k : Nat) : enB row nd (k + 1) = (enB row nd k && decide (nd.getD k 0 ≤ row.getD k 0)) := by
  unfold enB; rw [List.range_succ, List.all_append]; simp
theorem enB_iff (row nd : List Int) (k : Nat) : enB row nd k = true ↔ ∀ y, y < k → nd.getD y 0 ≤ row.getD y 0 := by
  unfold enB; rw [List.all_eq_true]; simp
set_option maxRecDepth 100000 in
set_option maxHeartbeats 4000000 in
theorem lwdecks_any (A0 : Option Addr) (c0' : Nat) (cs : List Int) (af : Int) (A2 : Option Addr) (c2 : Nat) (xs : List Int) (w : World) (h0 : Sl byteCell 1 w w.heap.size A0 cs) (hb0 : ∀ x ∈ cs, 0 ≤ x ∧ x < 256) (ha : 0 ≤ af) (ha2 : af ≤ 255) (h2 : Sl byteCell 1 w w.heap.size A2 xs) (hb2 : ∀ x ∈ xs, 0 ≤ x ∧ x < 256) :
    Calls Try.prog 7 #[.slice A0 cs.length c0', .int .u8 af, .slice A2 xs.length c2] w fun e w' => e = .returned (.bool true) ∧ Below w.heap.size w w' := by
  obtain ⟨i0', hInf, iz0, iz1, iz2⟩ := info_parts infoInt
  have H0 := Lib.hid h0; have H2 := Lib.hid h2; have HB0 := Lib.hid hb0; have HB2 := Lib.hid hb2
  have hw : Below w.heap.size w w := Below.refl _ _
  clear h0 h2 hb0 hb2
  by_cases t1 : cs.length < 1
  · have q1 : decide ((cs.length : Int) < 1) = true := decide_eq_true (by omega)
    go_enter Try.func7, Try.ntmps7
    go_wp2_with (first | (go_at_call 12; refine (known_any _).mono ?_; rintro _ w9 ⟨rfl, hb9⟩; have hw := bl2 hw hb9) | fail)
    go_ret
    exact ⟨rfl, hw⟩
  have q1 : decide ((cs.length : Int) < 1) = false := decide_eq_false (by omega)
  by_cases t2 : 8 < cs.length
  · have q2 : decide ((8 : Int) < (cs.length : Int)) = true := decide_eq_true (by omega)
    go_enter Try.func7, Try.ntmps7
    go_wp2_with (first | (go_at_call 12; refine (known_any _).mono ?_; rintro _ w9 ⟨rfl, hb9⟩; have hw := bl2 hw hb9) | fail)
    go_ret
    exact ⟨rfl, hw⟩
  have q2 : decide ((8 : Int) < (cs.length : Int)) = false := decide_eq_false (by omega)
  by_cases t3 : 100 < xs.length
  · have q3 : decide ((100 : Int) < (xs.length : Int)) = true := decide_eq_true (by omega)
    go_enter Try.func7, Try.ntmps7
    go_wp2_with (first | (go_at_call 12; refine (known_any _).mono ?_; rintro _ w9 ⟨rfl, hb9⟩; have hw := bl2 hw hb9) | fail)
    go_ret
    exact ⟨rfl, hw⟩
  have q3 : decide ((100 : Int) < (xs.length : Int)) = false := decide_eq_false (by omega)
  have HOM := Lib.hid (World.ownsRow_made (e := 3) (size := 1) w #[] 0 (base := w.heap.size) (Nat.le_refl _) (by simp) (by simp))
  go_enter Try.func7, Try.ntmps7
  go_wp2_with fail
  go_loopw [7, 8, 10] (fun rv sv iv W => ∃ (i : Nat) (Ap : Option Addr) (cp : Nat), i ≤ cs.length ∧ iv = .int .i64 (i : Int) ∧ rv = .slice Ap i cp ∧ sv = .int .i64 (sumL ((rowD cs).take i)) ∧ Hid (W.ownsRow w.heap.size 3 1 (.slice Ap i cp) i (((rowD cs).take i).map (Value.int .i64))) ∧ Hid (∀ q : Nat, (Value.slice Ap i cp).ownBlock = some q → w.heap.size ≤ q ∧ q ≠ w.heap.size + 1) ∧ Hid (Blk W (w.heap.size + 1) #[] 3) ∧ Below w.heap.size w W) (fun _ _ iv _ => cs.length - (intOf iv).toNat)
  case atStart =>
    refine ⟨0, _, _, by omega, rfl, rfl, by simp [sumL], ?_, ?_, ?_, by (repeat (first | exact Below.refl _ _ | assumption | (refine Below.alloc ?_ (by first | omega | (simp; omega) | (simp; done)) _) | (refine Below.setCell ?_ (by first | omega | (simp; omega) | (simp; done)) _) | (refine Below.drew ?_) | (refine belowN ?_ _) | (refine Below.trans ?_ (Below.mono ‹Below _ _ _› (by first | omega | (simp; omega) | (simp; done))))))⟩
    · have := HOM.out.alloc (.cells #[] 3)
      exact Lib.hid (by simpa using this)
    · refine Lib.hid fun q hq => ?_
      simp [Value.ownBlock] at hq
      omega
    · exact Lib.hid (Blk.at_ (by simp))
  case round =>
    clear hw HOM
    obtain ⟨i, Ap, cp, hi, rfl, rfl, rfl, HOW, HGB, HK, hw⟩ := hrel
    have hkl := HK.out.lt
    by_cases hlt : i < cs.length
    · obtain ⟨b, f, rfl, hbb, c0⟩ := (H0.out.below hw).byte_at hlt
      obtain ⟨x0, x1⟩ := HB0.out _ (List.getElem_mem hlt)
      have HTK := Lib.hid (rowD_take hlt)
      obtain ⟨x, hx⟩ : ∃ x, x = cs[i] := ⟨_, rfl⟩
      rw [← hx] at c0 x0 x1 HTK
      obtain ⟨d, hd⟩ : ∃ d, d = x % 9 := ⟨_, rfl⟩
      rw [← hd] at HTK
      have e1 : x % 9 = d := hd.symm
      have e2 : x.tmod 9 = d := by rw [Int.tmod_eq_emod_of_nonneg x0]; exact e1
      have d0 : 0 ≤ d ∧ d ≤ 8 := by omega
      have wd : IntKind.u8.wrap d = d := by unfold IntKind.wrap; simp [IntKind.bits, IntKind.signed]; omega
      have wdi : IntKind.i64.wrap d = d := IntWalk.i64_in _ ⟨by omega, by omega⟩
      obtain ⟨s0, s1⟩ := rowD_sum (cs := cs) i
      obtain ⟨s, hs⟩ : ∃ s, s = sumL ((rowD cs).take i) := ⟨_, rfl⟩
      have HS : Hid (sumL ((rowD cs).take (i + 1)) = s + d) := (by show _ = _; rw [HTK.out, sumL_snoc1, hs] : _)
      rw [← hs] at s0 s1 ⊢
      have ws : IntKind.i64.wrap (s + d) = s + d := IntWalk.i64_in _ ⟨by omega, by omega⟩
      have hws := hw.size
      have i0 : (0 : Int) ≤ (i : Int) := by omega
      have i1 : (i : Int) < (cs.length : Int) := by omega
      have hbl : b < wr.heap.size := by omega
      have HX := Lib.hid hx
      clear hx hd hs
      go_upto_region 7 with fail
      go_region_held3 (fun W' => W'.cell? ⟨b, f + i, none⟩ = some (.int .u8 x)) (first | exact c0 | go_keep) (first | (go_loud ((refine step_append_lies _ (by rfl) _ _ _ (by rfl) w.heap.size 3 i0' (.int .i64 0) 1 8 uInts hInf iz0 iz1 iz2 rfl (by omega) (.slice Ap i cp) i (((rowD cs).take i).map (Value.int .i64)) (by rfl) (own_stp HOW.out (by (repeat (first | exact Below.refl _ _ | assumption | (refine Below.alloc ?_ (by first | omega | (simp; omega) | (simp; done)) _) | (refine Below.setCell ?_ (by first | omega | (simp; omega) | (simp; done)) _) | (refine Below.drew ?_) | (refine belowN ?_ _) | (refine Below.trans ?_ (Below.mono ‹Below _ _ _› (by first | omega | (simp; omega) | (simp; done)))))))) _ 1 1 [.int .i64 d] (by rfl) (by rfl) (by first | exact World.news_of_block (cs := #[.int .i64 d]) (t := 3) (fr := (0, 0)) (heap_alloc_new _ _)) (by simp [Value.oneCell']) (by omega) (by unfold maxLen; omega) (by omega) (by simp; omega) _ rfl ?_); intro gg cap5 w5 hown5 hgrow hat hgl; have hgb : ∀ q : Nat, (Value.slice Ap i cp).ownBlock = some q → w.heap.size ≤ q ∧ q ≠ w.heap.size + 1 := HGB.out; have c0 : w5.cell? ⟨b, f + i, none⟩ = some (.int .u8 x) := (hgrow.cell_far ⟨b, f + i, none⟩ (by simp; omega) (fun e => by have := (hgb _ e.symm).1; simp at this; omega)).trans (by go_keep); have hw5 : Below w.heap.size w w5 := Below.grown (by (repeat (first | exact Below.refl _ _ | assumption | (refine Below.alloc ?_ (by first | omega | (simp; omega) | (simp; done)) _) | (refine Below.setCell ?_ (by first | omega | (simp; omega) | (simp; done)) _) | (refine Below.drew ?_) | (refine belowN ?_ _) | (refine Below.trans ?_ (Below.mono ‹Below _ _ _› (by first | omega | (simp; omega) | (simp; done))))))) hgrow (by simp; omega) (fun q hq => (hgb q hq).1); have HO5 := Lib.hid hown5; have HK5 : Hid (Blk w5 (w.heap.size + 1) #[] 3) := Lib.hid (Blk.grown (Blk.below HK.out (by (repeat (first | exact Below.refl _ _ | assumption | (refine Below.alloc ?_ (by first | omega | (simp; omega) | (simp; done)) _) | (refine Below.setCell ?_ (by first | omega | (simp; omega) | (simp; done)) _) | (refine Below.drew ?_) | (refine belowN ?_ _) | (refine Below.trans ?_ (Below.mono ‹Below _ _ _› (by first | omega | (simp; omega) | (simp; done))))))) hkl) hgrow (fun e => (hgb _ e.symm).2 rfl)); have HG5 : Hid (gg ≠ w.heap.size + 1 ∧ w.heap.size ≤ gg) := (by rcases hat with h | h; exact ⟨(hgb _ h).2, (hgb _ h).1⟩; (exact ⟨by simp at h; omega, by simp at h; omega⟩) : _); have hgl5 := hgl)) | fail)
      go_wp2_with fail
      refine ⟨⟨i + 1, _, cap5, by omega, by go_num, rfl, by rw [HS.out], ?_, ?_, HK5, hw5⟩, ?_⟩
      · rw [HTK.out, List.map_append]; exact HO5
      · refine Lib.hid fun q hq => ?_
        have h9 := HG5.out
        simp [Value.ownBlock] at hq
        omega
      · simp [intOf]; omega
    · obtain rfl : i = cs.length := by omega
      have htk : (rowD cs).take cs.length = rowD cs := by rw [← rowD_len cs, List.take_length]
      obtain ⟨s0, s1⟩ := rowD_sum (cs := cs) cs.length
      rw [htk] at s0 s1 ⊢
      have HRW : Hid (wr.ownsRow w.heap.size 3 1 (.slice Ap cs.length cp) cs.length ((rowD cs).map (Value.int .i64))) := (by have := HOW.out; rw [htk] at this; exact this : _)
      have HGL : Hid (∀ q : Nat, (Value.slice Ap cs.length cp).ownBlock = some q → q ≠ w.heap.size + 1 ∧ q < wr.heap.size) := Lib.hid fun q hq => ⟨(HGB.out q hq).2, (HOW.out.lt q hq).2⟩
      clear HOW HGB htk
      obtain ⟨s, hs⟩ : ∃ s, s = sumL (rowD cs) := ⟨_, rfl⟩
      rw [← hs] at s0 s1 ⊢
      by_cases hs0 : s = 0
      · have q5 : (s == 0) = true := by simp; exact hs0
        clear hs
        go_wp2_with (first | (go_at_call 12; refine (known_any _).mono ?_; rintro _ w9 ⟨rfl, hb9⟩; have hw := bl2 hw hb9) | fail)
        go_ret
        exact ⟨rfl, hw⟩
      have q5 : (s == 0) = false := by simp; exact hs0
      have HSE := Lib.hid hs
      obtain ⟨Z, hZ⟩ : ∃ Z, Z = wr.heap.size := ⟨_, rfl⟩
      have hZ1 : w.heap.size + 1 < Z := by rw [hZ]; exact hkl
      have HL0 : Hid (wr.ownsRow (w.heap.size + 1) 3 1 (.slice (some ⟨w.heap.size + 1, 0, none⟩) 0 0) 0 []) := Lib.hid ⟨by simp, .inr ⟨w.heap.size + 1, 0, #[], rfl, Nat.le_refl _, HK.out, by omega, by unfold maxLen; omega, by simp, by simp⟩⟩
      rw [← hZ] at HGL
      have hZw : Z ≤ wr.heap.size := by omega
      clear hs hZ HK hkl
      have HW0 := Lib.hid hw
      clear hw
      go_wp2_with fail
      go_loopw [9, 11] (fun lv jv W => ∃ (j : Nat) (Aq : Option Addr) (cq : Nat), j ≤ xs.length ∧ jv = .int .i64 (j : Int) ∧ lv = .slice Aq j cq ∧ Hid (W.ownsRow (w.heap.size + 1) 3 1 (.slice Aq j cq) j (((regD cs.length xs).take j).map (Value.int .i64))) ∧ Hid (∀ q : Nat, (Value.slice Aq j cq).ownBlock = some q → q = w.heap.size + 1 ∨ Z ≤ q) ∧ Hid (W.ownsRow w.heap.size 3 1 (.slice Ap cs.length cp) cs.length ((rowD cs).map (Value.int .i64))) ∧ Z ≤ W.heap.size ∧ Below w.heap.size w W) (fun _ jv _ => xs.length - (intOf jv).toNat)
      case atStart =>
        refine ⟨0, _, _, by omega, rfl, rfl, by simpa using HL0, ?_, HRW, hZw, HW0.out⟩
        refine Lib.hid fun q hq => ?_
        simp [Value.ownBlock] at hq
        omega
      case round =>
        clear HL0 HRW hZw HW0
        obtain ⟨j, Aq, cq, hj, rfl, rfl, HOW, HGB, HRW, hZw, hw⟩ := hrel
        by_cases hlt : j < xs.length
        · obtain ⟨b, f, rfl, hbb, c0⟩ := (H2.out.below hw).byte_at hlt
          obtain ⟨x0, x1⟩ := HB2.out _ (List.getElem_mem hlt)
          have HTK := Lib.hid (regD_take (n := cs.length) hlt)
          obtain ⟨x, hx⟩ : ∃ x, x = xs[j] := ⟨_, rfl⟩
          rw [← hx] at c0 x0 x1 HTK
          have wx : IntKind.i64.wrap x = x := IntWalk.i64_in _ ⟨by omega, by omega⟩
          obtain ⟨d, hd⟩ : ∃ d, d = x % (cs.length : Int) := ⟨_, rfl⟩
          rw [← hd] at HTK
          have e1 : x % (cs.length : Int) = d := hd.symm
          have e2 : x.tmod (cs.length : Int) = d := by rw [Int.tmod_eq_emod_of_nonneg x0]; exact e1
          have nz : ((cs.length : Int) == 0) = false := beq_eq_false_iff_ne.2 (by omega)
          have nz2 : (cs.length == 0) = false := beq_eq_false_iff_ne.2 (by omega)
          have nz3 : (0 : Int) < (cs.length : Int) := by omega
          have j0 : (0 : Int) ≤ (j : Int) := by omega
          have j1 : (j : Int) < (xs.length : Int) := by omega
          have HW := Lib.hid hw
          clear hx hd hw
          go_wp2_with (first | (at_builtin; refine wpList_append_own_at _ rfl _ _ 30 rfl (w.heap.size + 1) 3 i0' (.int .i64 0) 1 8 uInts hInf iz0 iz1 iz2 rfl (by decide) _ _ _ rfl (HOW.out.alloc _) ⟨wr.heap.size, 0, none⟩ 1 1 [.int .i64 d] rfl rfl (cell_one_new _ _ _) (by simp [Value.oneCell']) (by unfold maxLen; omega) (by omega) (by simp; omega) ?_; intro v' w1 hown1 hgrow _ hat; refine Hid.out ?_) | fail)
          obtain ⟨Aq', cq', rfl⟩ := ownSl2 hown1
          have HB3 : Hid (∀ q : Nat, (Value.slice Aq' (j + 1) cq').ownBlock = some q → q = w.heap.size + 1 ∨ Z ≤ q) := Lib.hid fun q hq => by
            rcases hat with h | h
            · have h2 : (Value.slice Aq' (j + 1) cq').ownBlock = (Value.slice Aq j cq).ownBlock := h
              exact HGB.out q (h2.symm.trans hq)
            · rw [h] at hq
              have h9 := Option.some.inj hq
              simp at h9
              omega
          have HW1 : Hid (Below w.heap.size w w1) := (HW.out.alloc HW.out.size _).grown hgrow (by have := HW.out.size; simp; omega) (fun g hg => by have := HGB.out g hg; omega)
          have HR1 : Hid (w1.ownsRow w.heap.size 3 1 (.slice Ap cs.length cp) cs.length ((rowD cs).map (Value.int .i64))) := (HRW.out.alloc (.cells #[.int .i64 d] 3)).kept hgrow (apart_of HGL.out HGB.out)
          have hZ2 : Z ≤ w1.heap.size := by have := hgrow.size; simp at this; omega
          have HO1 := Lib.hid hown1
          clear hown1 hgrow hat
          refine Lib.hid ?_
          go_wp2_with fail
          refine ⟨⟨j + 1, Aq', cq', by omega, by go_num, rfl, ?_, HB3, HR1, hZ2, HW1.out⟩, ?_⟩
          · rw [HTK.out, List.map_append]; exact HO1
          · simp [intOf]; omega
        · obtain rfl : j = xs.length := by omega
          have htk : (regD cs.length xs).take xs.length = regD cs.length xs := by rw [← regD_len cs.length xs, List.take_length]
          obtain ⟨n, hn⟩ : ∃ n, n = cs.length := ⟨_, rfl⟩
          obtain ⟨l, hl⟩ : ∃ l, l = regD cs.length xs := ⟨_, rfl⟩
          obtain ⟨row, hrow⟩ : ∃ r, r = rowD cs := ⟨_, rfl⟩
          have hll : l.length = xs.length := by rw [hl, regD_len]
          have hrl : row.length = cs.length := by rw [hrow, rowD_len]
          obtain ⟨A8, c8, e8, hs8, hz8, hk8⟩ := sl_of_ownK (l := l) (by rw [flat_int, hll, hl]; have := HOW.out; rw [htk] at this; exact this)
          rw [hll] at e8
          cases e8
          obtain ⟨A9, c9, e9, hs9, hz9, hk9⟩ := sl_of_ownK (l := row) (by rw [flat_int, hrl, hrow]; exact HRW.out)
          rw [hrl] at e9
          cases e9
          rw [← hrow] at HSE
          have hrb : ∀ x ∈ row, 0 ≤ x ∧ x ≤ 8 := by rw [hrow]; exact rowD_bd
          have hlb : ∀ x ∈ l, 0 ≤ x ∧ x < (row.length : Int) := fun x hx => by
            rw [hl] at hx
            obtain ⟨y, hy, rfl⟩ := List.mem_map.1 hx
            rw [hrl]
            exact ⟨Int.emod_nonneg _ (by omega), Int.emod_lt_of_pos _ (by omega)⟩
          obtain ⟨d, hd⟩ : ∃ d, d = af % s := ⟨_, rfl⟩
          have hd0 : 0 ≤ d ∧ d < s := by rw [hd]; exact ⟨Int.emod_nonneg _ hs0, Int.emod_lt_of_pos _ (by omega)⟩
          have e1 : af % s = d := hd.symm
          have e2 : af.tmod s = d := by rw [Int.tmod_eq_emod_of_nonneg ha]; exact e1
          have waf : IntKind.i64.wrap af = af := IntWalk.i64_in _ ⟨by omega, by omega⟩
          obtain ⟨a, haN⟩ : ∃ a : Nat, (a : Int) = 1 + d := ⟨(1 + d).toNat, by omega⟩
          have wad : IntKind.i64.wrap (1 + d) = (a : Int) := by rw [← haN]; exact IntWalk.i64_in _ ⟨by omega, by omega⟩
          obtain ⟨v, HEX, HVI⟩ := decks_plain (row := row) (l := l) (a := a) hrb (by omega) (by omega) (by omega) (by rw [← HSE.out]; omega) (by omega) hlb
          have HEXH := Lib.hid HEX; have HVIH := Lib.hid HVI
          have hs8 : Sl intCell 1 wr wr.heap.size Aq l := hs8
          have hs9 : Sl intCell 1 wr wr.heap.size Ap row := hs9
          have ha64 : a ≤ 64 := by omega
          have hnE : Hid (needE l (row.length : Int) (a : Int) = 0) := Lib.hid (by
            unfold needE
            rw [if_neg (by omega)]
            unfold inE
            rw [if_neg (by omega), if_neg]
            rintro ⟨_, h9⟩
            rw [List.any_eq_true] at h9
            obtain ⟨x, hx, h9⟩ := h9
            have := hlb x hx
            unfold outB at h9
            simp at h9
            omega)
          rw [hll] at hk8
          rw [hrl] at hk9
          clear HOW HRW HGB HGL htk hn hl hrow HEX HVI hlb hd hd0
          rw [hrl] at hnE HVIH
          rw [← hll]
          have HHL := Lib.hid hll; have HHR := Lib.hid hrl
          have hl6 : l.length ≤ 1000000 := by omega
          have hsm : s ≠ 0 := hs0
          have hl100 : l.length ≤ 100 := by omega
          have hr100 : row.length ≤ 8 := by omega
          clear hll hrl
          go_upto_region 15 with fail
          rw [← haN]
          clear haN wad
          go_wp2_with (first | ((go_at_call 28; refine (ldeck_any (a : Int) Ap cp cs.length row wr HHR.out (by omega) hs9).mono ?_; rintro _ w2 ⟨y, rfl, hym, hyr, hb2⟩; refine Hid.out ?_)) | fail)
          have hw2 := bl2 hw hb2
          have hs8 := (hs8.below hb2).more hb2.size
          have hs9 := (hs9.below hb2).more hb2.size
          clear hb2 hw
          refine Lib.hid ?_
          go_wp2_with (first | (go_at_call 15; refine (lints_any Aq cq l.length l w2 rfl hl6 hz8 hs8).mono ?_; rintro _ w3 ⟨B, k, rfl, hs1, hz1, hk1, hown, hb3⟩; refine Hid.out ?_) | fail)
          have hw3 := bl2 hw2 hb3
          have hs8 := (hs8.below hb3).more hb3.size
          have hs9 := (hs9.below hb3).more hb3.size
          have hEC := excl_any y l B k w3 hl6 ((hyr.below hb3).more hb3.size) hs1
          rw [hym, HEXH.out] at hEC
          clear hb3 hw2 hown hz1 hyr hs1
          refine Lib.hid ?_
          go_wp2_with (first | (go_at_call 27; refine hEC.mono ?_; rintro _ w4 ⟨rfl, hb4⟩; refine Hid.out ?_) | fail)
          have hw4 := bl2 hw3 hb4
          have hs8 := (hs8.below hb4).more hb4.size
          have hs9 := (hs9.below hb4).more hb4.size
          clear hb4 hw3 hEC
          refine Lib.hid ?_
          go_wp2_with (first | (go_at_call 15; refine (lints_any Aq cq l.length l w4 rfl hl6 hz8 hs8).mono ?_; rintro _ w5 ⟨B5, k5, rfl, hs5, hz5, hk5, hown, hb5⟩; refine Hid.out ?_) | fail)
          have hw5 := bl2 hw4 hb5
          have hs9 := (hs9.below hb5).more hb5.size
          clear hb5 hw4 hown hz5 hs8
          refine Lib.hid ?_
          go_wp2_with (first | (go_at_call 29; refine (need_any B5 k5 l (cs.length : Int) (a : Int) w5 hl6 hk5 hs5).mono ?_; intro e6 w6 h6; obtain ⟨A6, n6, rfl, hN, hb6⟩ := need_gen h6; refine Hid.out ?_) | fail)
          have hw6 := bl2 hw5 hb6
          have hs9 := (hs9.below hb6).more hb6.size
          rw [hnE.out] at hN ⊢
          obtain ⟨hn6, hs6⟩ := hN.2 rfl
          rw [Int.toNat_natCast] at hn6
          rw [Int.toNat_natCast, Int.toNat_natCast] at hs6
          subst hn6
          obtain ⟨nd, hnd⟩ : ∃ q, q = needF l cs.length a (casts l.length a) := ⟨_, rfl⟩
          rw [← hnd] at hs6
          have hnl : nd.length = cs.length := by rw [hnd, needF_len]
          have HVN : Hid (v = -1 ↔ enB row nd cs.length = true) := (by show _ ↔ _; rw [HVIH.out, enB_iff, hnd] : _)
          have HS6 := Lib.hid hs6; have HS9 := Lib.hid hs9; have HW6 := Lib.hid hw6
          clear h6 hN hb6 hw5 hs5 hs6 hs9 hw6 hnd hnE HVIH HEXH
          refine Lib.hid ?_
          go_wp2_with fail
          go_loopw [17, 18] (fun ev kv W => ∃ k : Nat, k ≤ cs.length ∧ kv = .int .i64 (k : Int) ∧ ev = .bool (enB row nd k) ∧ Below w6.heap.size w6 W) (fun _ kv _ => cs.length - (intOf kv).toNat)
          case atStart => exact ⟨0, by omega, rfl, rfl, Below.refl _ _⟩
          case round =>
            obtain ⟨k, hk, rfl, rfl, hb⟩ := hrel
            by_cases hlt : k < cs.length
            · obtain ⟨b3, f3, rfl, hbb3, c3⟩ := (HS9.out.below hb).int_at (k := k) (by rw [HHR.out]; exact hlt)
              obtain ⟨b4, f4, rfl, hbb4, c4⟩ := (HS6.out.below hb).int_at (k := k) (by omega)
              have hSU := enB_succ row nd k
              have g3 : row.getD k 0 = row[k]'(by rw [HHR.out]; exact hlt) := by simp [show k < row.length by rw [HHR.out]; exact hlt]
              have g4 : nd.getD k 0 = nd[k]'(by omega) := by simp [show k < nd.length by omega]
              rw [g3, g4] at hSU
              obtain ⟨x, hx⟩ : ∃ x, x = row[k]'(by rw [HHR.out]; exact hlt) := ⟨_, rfl⟩
              obtain ⟨z, hz⟩ : ∃ x, x = nd[k]'(by omega) := ⟨_, rfl⟩
              rw [← hx] at c3 hSU
              rw [← hz] at c4 hSU
              have HSU := Lib.hid hSU
              have k0 : (0 : Int) ≤ (k : Int) := by omega
              have k1 : (k : Int) < (cs.length : Int) := by omega
              obtain ⟨ev, hev⟩ : ∃ ev, ev = enB row nd k := ⟨_, rfl⟩
              rw [← hev] at HSU ⊢
              clear hSU g3 g4 hx hz hev
              cases ev
              · have HF : Hid (enB row nd (k + 1) = false) := (by show _ = _; rw [HSU.out, Bool.false_and] : _)
                go_wp2
                (refine wp_region_ext (by kernel_rfl) (by kernel_rfl) ?_; (repeat (go_big_quiet_step((fail)))); with_reducible refine wpQuiet_nil ?_; intro w1 hw1; have hb1 := ext_below hw1; clear hw1)
                go_wp2
                go_roundw
                case rel => exact ⟨k + 1, by omega, by go_num, by rw [HF.out], bl2 hb hb1⟩
                case measure => simp [intOf]; omega
              · by_cases hzx : z ≤ x
                · have dz : decide (z ≤ x) = true := decide_eq_true hzx
                  have HF : Hid (enB row nd (k + 1) = true) := (by show _ = _; rw [HSU.out, dz]; rfl : _)
                  clear hzx
                  go_wp2
                  (refine wp_region_ext (by kernel_rfl) (by kernel_rfl) ?_; (repeat (go_big_quiet_step((fail)))); with_reducible refine wpQuiet_nil ?_; intro w1 hw1; have hb1 := ext_below hw1; clear hw1)
                  go_wp2
                  go_roundw
                  case rel => exact ⟨k + 1, by omega, by go_num, by rw [HF.out], bl2 hb hb1⟩
                  case measure => simp [intOf]; omega
                · have dz : decide (z ≤ x) = false := decide_eq_false hzx
                  have HF : Hid (enB row nd (k + 1) = false) := (by show _ = _; rw [HSU.out, dz]; rfl : _)
                  clear hzx
                  go_wp2
                  (refine wp_region_ext (by kernel_rfl) (by kernel_rfl) ?_; (repeat (go_big_quiet_step((fail)))); with_reducible refine wpQuiet_nil ?_; intro w1 hw1; have hb1 := ext_below hw1; clear hw1)
                  go_wp2
                  go_roundw
                  case rel => exact ⟨k + 1, by omega, by go_num, by rw [HF.out], bl2 hb hb1⟩
                  case measure => simp [intOf]; omega
            · obtain rfl : k = cs.length := by omega
              have hw := bl2 HW6.out hb
              by_cases hv : v = -1
              · have e5 := HVN.out.1 hv
                subst hv
                rw [e5]
                clear e5
                go_wp2_with (first | (go_at_call 12; refine (known_any _).mono ?_; rintro _ w9 ⟨rfl, hb9⟩; have hw := bl2 hw hb9) | fail)
                go_ret
                exact ⟨rfl, hw⟩
              · have e5 : enB row nd cs.length = false := by
                  rw [← Bool.not_eq_true]; exact fun h => hv (HVN.out.2 h)
                have e6 : (v == -1) = false := by simp; exact hv
                rw [e5]
                clear e5 hv
                go_wp2_with (first | (go_at_call 12; refine (known_any _).mono ?_; rintro _ w9 ⟨rfl, hb9⟩; have hw := bl2 hw hb9) | fail)
                go_ret
                exact ⟨rfl, hw⟩
end Go.Proofs.Ytiikkcifdhcejaa

/- habit: the law HabitOrder. -/
import Derived.Test.YtiikkcifdhcejaaZ30PyA
import Derived.Test.YtiikkcifdhcejaaUl
import Derived.Test.YtiikkcifdhcejaaWn
import Derived.Test.YtiikkcifdhcejaaWm
import Derived.Test.YtiikkcifdhcejaaWt
import Derived.Test.YtiikkcifdhcejaaWr
namespace Go.Proofs.Ytiikkcifdhcejaa
open Go.RowKit

theorem outs_at2 (kd : Int) (A : Option Addr) (c : Nat) (rows : List LL) (af : Int) (h : 0 < rows.length) : (Md.m ⟨kd, A, c, rows, af⟩).outs = rows[0].l.length := by
  rw [outs_eq]
  cases rows with
  | nil => simp at h
  | cons r t => rfl
theorem chGo_err : ∀ (l : List (Int × Int)) (c : Ch), (chGo l c).2.2 ≠ 0 → (chGo l c).1 = 0 ∧ (chGo l c).2.1 = 0
  | [], c, h => absurd rfl h
  | (w, s) :: t, c, h => by
    unfold chGo at h ⊢
    by_cases h1 : w = 0
    · rw [if_pos h1] at h; exact absurd rfl h
    · rw [if_neg h1] at h ⊢
      split at h
      · rename_i h2; rw [if_pos h2]; exact chGo_err t _ h
      · rename_i h2; rw [if_neg h2]; exact ⟨rfl, rfl⟩
theorem chan_err {m : HMd} {l : List Int} (h : (chanR m l).2.2 ≠ 0) : (chanR m l).1 = 0 ∧ (chanR m l).2.1 = 0 := by
  unfold chanR at h ⊢
  split
  · rename_i h0; rw [if_pos h0] at h; exact chGo_err _ _ h
  · exact ⟨rfl, rfl⟩
theorem sl_takeJ {w : World} {B : Nat} {A : Option Addr} {l : List Int} (h : Sl intCell 1 w B A l) {k : Nat} (hk : k ≤ l.length) : Sl intCell 1 w B A (l.take k) := by
  have e : flat intCell (l.take k) = (flat intCell l).take k := by rw [flat_int, flat_int, List.map_take]
  refine ⟨by rw [flat_int]; simp, fun hn => ?_⟩
  simp at hn
  obtain ⟨b, o, e1, hb, hc⟩ := h.2 (by omega)
  refine ⟨b, o, e1, hb, fun j u hu => hc j u ?_⟩
  rw [e] at hu
  rw [List.getElem?_take] at hu
  split at hu
  · exact hu
  · cases hu
theorem ints_pre (A : Option Addr) (len c t : Nat) (W : World) (h : t ≤ len) (hc : len ≤ c) : (Instr.slice 30 (.slice A len c) none (some (.int .i64 (t : Int))) none).run Try.prog W = .ok (.slice A t c) W := by
  rw [run_slice_h W 30 A len c (by kernel_rfl) .i64 (t : Int) (by omega) (by omega)]
  have hs : (sizeOf (Try.prog.elem 30)).run Try.prog W = .ok 1 W := by kernel_rfl
  rw [hs, Int.toNat_natCast]
  show Result.ok (sliced A 0 t c 1) W = _
  unfold sliced
  have e : Option.map (fun x : Addr => x.add (0 * 1)) A = A := by
    cases A with
    | none => rfl
    | some ad =>
      obtain ⟨b, o, s⟩ := ad
      cases s <;> simp [Addr.add]
  rw [e]
  simp
theorem flat_app (L M : List Int) : flat intCell (L ++ M) = flat intCell L ++ flat intCell M := by simp [flat]
theorem step_app_sl {P : Program} {w : World} {ops : Array Oper} {o : Oper} {a : Act} {K : Act → World → Prop} {Q : Exit → Act → World → Prop} {E : Prop} (hgd : o.guard = none) (s x : Operand) (t : TypeId)
    (ho : o.op = .call { callee := .builtin .append, args := #[s, x], argTypes := #[t, t] })
    (base : Nat) (e : TypeId) (i : TypeInfo) (z : Value) (size bytes : Nat) (ht : P.underlying t = some (.slice e)) (hi : P.info? e = some i) (hz : i.zero = some z)
    (hsize : i.size = size) (hby : i.bytes = bytes) (hzs : z.cells.size = size) (hsz : 0 < size)
    (v : Value) (n : Nat) (xs : List Value) (hs : a.eval s = v) (hown : w.ownsRow base e size v n xs)
    (X : Option Addr) (m c : Nat) (news : List Value) (hx : a.eval x = .slice X m c) (hX : X = none → m = 0 ∧ c = 0) (hl : news.length = m * size) (hnews : ∀ ad, X = some ad → ∀ j u, news[j]? = some u → w.cell? (ad.add j) = some u) (h1 : ∀ u ∈ news, u.oneCell' = true)
    (h63 : n + m ≤ maxLen) (hbytes : (n + m) * bytes ≤ 140737488355328) (hbase : base ≤ w.heap.size)
    (h : ∀ v' w', w'.ownsRow base e size v' (n + m) (xs ++ news) → w.grownBy w' v.ownBlock → (v'.ownBlock = v.ownBlock ∨ v'.ownBlock = some w.heap.size) → K (a.put o.dst v') w') :
    if Region.wanted o (yielded ops a.tmps) = true then Oper.wp P o a w K Q else E := by
  cases X with
  | some ad => exact step_app_at hgd s x t ho base e i z size bytes ht hi hz hsize hby hzs hsz v n xs hs hown ad m c news hx hl (hnews ad rfl) h1 h63 hbytes hbase h
  | none =>
    obtain ⟨rfl, rfl⟩ := hX rfl
    have hnil : news = [] := List.eq_nil_of_length_eq_zero (by omega)
    subst hnil
    have hw : Region.wanted o (yielded ops a.tmps) = true := by simp [Region.wanted, hgd]
    rw [if_pos hw]
    have hrun := run_append_owned_none (P := P) (w := w) base t o.type e i size ht hi v n xs hown
    unfold Oper.wp
    simp [execOp, ho, resolve, invoke, builtin, hs, hx, hrun, Result.andThen]
    exact h v w (by simpa using hown) (World.grownBy.refl w _) (.inl rfl)
theorem Sl.newsAt {W : World} {B : Nat} {A : Option Addr} {l : List Int} (h : Sl intCell 1 W B A l) : ∀ ad, A = some ad → ∀ j u, (flat intCell l)[j]? = some u → W.cell? (ad.add j) = some u := fun ad e j u hu => by
  have hj : 0 < l.length := by
    have h1 := (List.getElem?_eq_some_iff.1 hu).1
    rw [flat_int, List.length_map] at h1; omega
  obtain ⟨b, o, e2, hb, hc⟩ := h.2 hj
  rw [e] at e2; cases e2
  rw [Go.WideShapes.add_plain]
  exact hc j u hu
/-- a value that is a copy of a model, of a list -/
def OwnT (m : HMd) (q : Value) (W : World) : Prop := ∃ y : Md, q = .agg #[.int .i64 y.kind, .slice y.a y.rows.length y.c, .int .i64 y.after] ∧ y.m = m ∧ y.reads W W.heap.size
theorem OwnT.stays {m : HMd} : Stays (OwnT m) := fun _ _ _ ⟨y, h1, h2, h3⟩ hb => ⟨y, h1, h2, (h3.below hb).more hb.size⟩
def IntsT (l : List Int) (n : Nat) (q : Value) (W : World) : Prop := ∃ B k, q = .slice B n k ∧ Sl intCell 1 W W.heap.size B l
theorem IntsT.stays {l : List Int} {n : Nat} : Stays (IntsT l n) := fun _ _ _ ⟨B, k, h1, h2⟩ hb => ⟨B, k, h1, (h2.below hb).more hb.size⟩
theorem Sl.allocS {W : World} {A : Option Addr} {l : List Int} (h : Sl intCell 1 W W.heap.size A l) (o : Obj) : Sl intCell 1 (W.alloc o) (W.alloc o).heap.size A l :=
  have hb : Below W.heap.size W (W.alloc o) := (Below.refl _ _).alloc (Nat.le_refl _) o
  (h.below hb).more hb.size
/-- back and turned while back is made -/
structure BkI (U : World) (zb : Nat) (v : Value) (L : List Int) (tA : Option Addr) (T : List Int) (W : World) : Prop where
  own : W.ownsRow zb 3 1 v L.length (flat intCell L)
  tur : Sl intCell 1 W W.heap.size tA T
  av : ∀ ad, tA = some ad → some ad.block ≠ v.ownBlock
  hb : Below zb U W
  hz : zb ≤ W.heap.size
theorem BkI.below {U : World} {zb : Nat} {v : Value} {L : List Int} {tA : Option Addr} {T : List Int} {W W' : World} (h : BkI U zb v L tA T W) (hb : Below W.heap.size W W') : BkI U zb v L tA T W' :=
  ⟨own_stp h.own hb, (h.tur.below hb).more hb.size, h.av, h.hb.trans (hb.mono h.hz), Nat.le_trans h.hz hb.size⟩
theorem BkI.app {U : World} {zb : Nat} {v v' : Value} {L L' : List Int} {tA : Option Addr} {T : List Int} {W W' : World} {x : Int} (h : BkI U zb v L tA T W) (hta : ∀ ad, tA = some ad → ad.block < W.heap.size) (hg : W.grownBy W' v.ownBlock)
    (hown : W'.ownsRow zb 3 1 v' (L.length + 1) (flat intCell L ++ [.int .i64 x])) (hat : v'.ownBlock = v.ownBlock ∨ v'.ownBlock = some W.heap.size) (hL : L' = L ++ [x]) : BkI U zb v' L' tA T W' := by
  subst hL
  refine ⟨by rw [List.length_append, flat_snoc]; exact hown, (h.tur.grownN hg (Nat.le_refl _) fun _ ad e => h.av ad e).more hg.size, fun ad e e2 => ?_, h.hb.grown hg h.hz (fun q hq => (h.own.lt q hq).1), Nat.le_trans h.hz hg.size⟩
  rcases hat with e3 | e3
  · rw [e3] at e2; exact h.av ad e e2
  · rw [e3] at e2; have := hta ad e; have := Option.some.inj e2; omega
set_option maxRecDepth 100000 in
set_option maxHeartbeats 8000000 in
theorem lword0_any (kd : Int) (A : Option Addr) (c : Nat) (rows : List LL) (af : Int) (lA : Option Addr) (lc : Nat) (l : List Int) (cut : Int) (w : World) (hr : Lists w w.heap.size A rows) (hn : ∀ r ∈ rows, r.a = none → r.c = 0)
    (hl : Sl intCell 1 w w.heap.size lA l) (hlA : lA = none → lc = 0) (hlc : l.length ≤ lc) (hc0 : 0 ≤ cut) (hc1 : cut < 256) :
    Calls Try.prog 5 #[.agg #[.int .i64 kd, .slice A rows.length c, .int .i64 af], .slice lA l.length lc, .int .u8 cut] w fun e w' => e = .returned (.bool true) ∧ Below w.heap.size w w' := by
  obtain ⟨i0', hInf, iz0, iz1, iz2⟩ := info_parts infoInt
  obtain ⟨la, hla⟩ : ∃ q, q = largeB (⟨kd, A, c, rows, af⟩ : Md).m := ⟨_, rfl⟩
  have HLA : Hid (∀ W, Below w.heap.size w W → Calls Try.prog 11 #[.agg #[.int .i64 kd, .slice A rows.length c, .int .i64 af]] W fun e w' => e = .returned (.bool la) ∧ Below W.heap.size W w') := Lib.hid fun W hW => by rw [hla]; exact llarge_any ⟨kd, A, c, rows, af⟩ W ((hr.below hW).more hW.size)
  have HR := Lib.hid hr; have HN := Lib.hid hn; have HLL := Lib.hid hla; have HL := Lib.hid hl; have HLN := Lib.hid hlA; have HLC := Lib.hid hlc
  clear hr hn hla hl hlA hlc
  go_enter Try.func5, Try.ntmps5
  go_upto_region 1 with fail
  obtain ⟨b3, hb3⟩ : ∃ q, q = w.heap.size := ⟨_, rfl⟩
  rw [← hb3]
  refine gen_w (fun W => Blk W b3 #[.int .i64 kd, .slice A rows.length c, .int .i64 af] 25 ∧ Below w.heap.size w W) ⟨Blk.at_ hb3, by (repeat (first | exact Below.refl _ _ | assumption | (refine Below.alloc ?_ (by first | omega | (simp; omega) | (simp; done)) _) | (refine Below.setCell ?_ (by first | omega | (simp; omega) | (simp; done)) _) | (refine Below.drew ?_) | (refine belowN ?_ _) | (refine Below.trans ?_ (Below.mono ‹Below _ _ _› (by first | omega | (simp; omega) | (simp; done))))))⟩ ?_
  rintro V ⟨g, hw⟩
  have hwb : w.heap.size ≤ b3 := by omega
  clear hb3
  (have z0 := g.cell 0; have z1 := g.cell 1; have z2 := g.cell 2; simp at z0 z1 z2)
  cases la with
  | true =>
    go_wp2_with (first | (go_at_call 11; (with_reducible refine (HLA.out _ hw).mono ?_); rintro _ w1 ⟨rfl, hb1⟩; have g := g.below hb1 g.lt; have hw := bl2 hw hb1; clear z0 z1 z2; (have z0 := g.cell 0; have z1 := g.cell 1; have z2 := g.cell 2; simp at z0 z1 z2)) | (go_at_call 12; refine (known_any _).mono ?_; rintro _ w9 ⟨rfl, hb9⟩; have hw := bl2 hw hb9) | fail)
    go_ret
    exact ⟨rfl, hw⟩
  | false =>
  by_cases h60 : 60 < l.length
  · have q60 : decide ((60 : Int) < (l.length : Int)) = true := by simp; omega
    clear h60
    go_wp2_with (first | (go_at_call 11; (with_reducible refine (HLA.out _ hw).mono ?_); rintro _ w1 ⟨rfl, hb1⟩; have g := g.below hb1 g.lt; have hw := bl2 hw hb1; clear z0 z1 z2; (have z0 := g.cell 0; have z1 := g.cell 1; have z2 := g.cell 2; simp at z0 z1 z2)) | (go_at_call 12; refine (known_any _).mono ?_; rintro _ w9 ⟨rfl, hb9⟩; have hw := bl2 hw hb9) | fail)
    go_ret
    exact ⟨rfl, hw⟩
  have q60 : decide ((60 : Int) < (l.length : Int)) = false := by simp; omega
  have hL60 : l.length ≤ 60 := by omega
  have HL60 := Lib.hid hL60
  have HRD : Hid (∀ W, Below w.heap.size w W → (⟨kd, A, c, rows, af⟩ : Md).reads W W.heap.size) := Lib.hid (by
    have h9 := HLL.out.symm
    unfold largeB Md.m at h9
    simp only [Bool.or_eq_false_iff, decide_eq_false_iff_not, List.any_map, List.any_eq_false, List.length_map] at h9
    exact fun W hW => ⟨(HR.out.below hW).more hW.size, by show rows.length ≤ _; omega, fun r hr => by have := h9.2 r hr; simp at this; omega⟩)
  have HOA := Lib.hid (fun W (hW : Below w.heap.size w W) => lownS_any ⟨kd, A, c, rows, af⟩ W (HRD.out W hW) HN.out)
  obtain ⟨m, hm⟩ : ∃ m, m = (⟨kd, A, c, rows, af⟩ : Md).m := ⟨_, rfl⟩
  rw [← hm] at HOA
  have HM := Lib.hid hm
  obtain ⟨er, her⟩ : ∃ e, e = modE m := ⟨_, rfl⟩
  have HCK : Hid (∀ W (y : Md), y.m = m → y.reads W W.heap.size → Calls Try.prog 23 #[.agg #[.int .i64 y.kind, .slice y.a y.rows.length y.c, .int .i64 y.after]] W fun e w' => e = .returned (.int .i64 er) ∧ Below W.heap.size W w') := Lib.hid fun W y h1 h2 => by
    rw [her, ← h1]; exact checkM_of y W h2
  have HER := Lib.hid her
  clear her hm h60
  by_cases h6 : er ≠ 0
  · have hQ6 : (er != 0) = true := by simp; exact h6
    clear h6
    go_wp2_with (first | (go_at_call 11; (with_reducible refine (HLA.out _ hw).mono ?_); rintro _ w1 ⟨rfl, hb1⟩; have g := g.below hb1 g.lt; have hw := bl2 hw hb1; clear z0 z1 z2; (have z0 := g.cell 0; have z1 := g.cell 1; have z2 := g.cell 2; simp at z0 z1 z2)) | (go_at_call 12; refine (known_any _).mono ?_; rintro _ w9 ⟨rfl, hb9⟩; have hw := bl2 hw hb9) | (go_at_call 14; (with_reducible refine (HOA.out _ hw).mono ?_); rintro _ w2 ⟨y, rfl, hy, hyr, -, hb2, -, -⟩; have g := g.below hb2 g.lt; have hw := bl2 hw hb2; clear z0 z1 z2; (have z0 := g.cell 0; have z1 := g.cell 1; have z2 := g.cell 2; simp at z0 z1 z2)) | (go_at_call 23; (with_reducible refine (HCK.out _ _ hy hyr).mono ?_); rintro _ w3 ⟨rfl, hb3⟩; have g := g.below hb3 g.lt; have hw := bl2 hw hb3; clear z0 z1 z2; (have z0 := g.cell 0; have z1 := g.cell 1; have z2 := g.cell 2; simp at z0 z1 z2)) | fail)
    go_ret
    exact ⟨rfl, hw⟩
  obtain rfl : er = 0 := by omega
  have HIN := Lib.hid (fun W (hW : Below w.heap.size w W) => lints_any lA lc l.length l W rfl (by omega) HLN.out ((HL.out.below hW).more hW.size))
  obtain ⟨⟨cn, cd, ce⟩, hch⟩ : ∃ q, q = chanR m l := ⟨_, rfl⟩
  have HCH : Hid (∀ W (y : Md) B k, y.m = m → y.reads W W.heap.size → Sl intCell 1 W W.heap.size B l → Calls Try.prog 24 #[.agg #[.int .i64 y.kind, .slice y.a y.rows.length y.c, .int .i64 y.after], .slice B l.length k] W fun e w' => e = .returned (.tuple #[.agg #[.int .i64 cn, .int .i64 cd], .int .i64 ce]) ∧ Below W.heap.size W w') := Lib.hid fun W y B k h1 h2 h3 => by
    have := chanF_any y l B k W (by omega) h2 h3
    rw [h1, ← hch] at this; exact this
  have HC := Lib.hid hch
  clear h6 hch
  go_upto_region 4 with (first | (go_at_call 11; (with_reducible refine (HLA.out _ hw).mono ?_); rintro _ w1 ⟨rfl, hb1⟩; have g := g.below hb1 g.lt; have hw := bl2 hw hb1; clear z0 z1 z2; (have z0 := g.cell 0; have z1 := g.cell 1; have z2 := g.cell 2; simp at z0 z1 z2)) | (go_at_call 12; refine (known_any _).mono ?_; rintro _ w9 ⟨rfl, hb9⟩; have hw := bl2 hw hb9) | (go_at_call 14; (with_reducible refine (HOA.out _ hw).mono ?_); rintro _ w2 ⟨y, rfl, hy, hyr, -, hb2, -, -⟩; have g := g.below hb2 g.lt; have hw := bl2 hw hb2; clear z0 z1 z2; (have z0 := g.cell 0; have z1 := g.cell 1; have z2 := g.cell 2; simp at z0 z1 z2)) | (go_at_call 23; (with_reducible refine (HCK.out _ _ hy hyr).mono ?_); rintro _ w3 ⟨rfl, hb3⟩; have g := g.below hb3 g.lt; have hw := bl2 hw hb3; clear z0 z1 z2; (have z0 := g.cell 0; have z1 := g.cell 1; have z2 := g.cell 2; simp at z0 z1 z2)) | (go_at_call 15; (with_reducible refine (HIN.out _ hw).mono ?_); rintro _ w4 ⟨B, k, rfl, hs, -, -, -, hb4⟩; have g := g.below hb4 g.lt; have hw := bl2 hw hb4; have hyr := (hyr.below hb4).more hb4.size; clear z0 z1 z2; (have z0 := g.cell 0; have z1 := g.cell 1; have z2 := g.cell 2; simp at z0 z1 z2)) | (go_at_call 24; (with_reducible refine (HCH.out _ _ _ _ hy hyr hs).mono ?_); rintro _ w5 ⟨rfl, hb5⟩; have g := g.below hb5 g.lt; have hw := bl2 hw hb5; clear z0 z1 z2; (have z0 := g.cell 0; have z1 := g.cell 1; have z2 := g.cell 2; simp at z0 z1 z2)) | fail)
  obtain ⟨b7, hb7⟩ : ∃ q, q = w5.heap.size := ⟨_, rfl⟩
  have gl := g.lt
  refine gen_w (fun W => Blk W b3 #[.int .i64 kd, .slice A rows.length c, .int .i64 af] 25 ∧ Blk W b7 #[.int .i64 cn, .int .i64 cd] 27 ∧ Below w.heap.size w W) ⟨g.alloc _, Blk.at_ hb7, by (repeat (first | exact Below.refl _ _ | assumption | (refine Below.alloc ?_ (by first | omega | (simp; omega) | (simp; done)) _) | (refine Below.setCell ?_ (by first | omega | (simp; omega) | (simp; done)) _) | (refine Below.drew ?_) | (refine belowN ?_ _) | (refine Below.trans ?_ (Below.mono ‹Below _ _ _› (by first | omega | (simp; omega) | (simp; done))))))⟩ ?_
  have h37 : b3 < b7 := by omega
  rw [← hb7]
  clear g hw hs hyr hb7 gl z0 z1 z2
  rintro V1 ⟨g, g7, hw⟩
  by_cases h8 : ce ≠ 0
  · have hQ8 : (ce != 0) = true := by simp; exact h8
    obtain ⟨rfl, rfl⟩ : cn = 0 ∧ cd = 0 := by
      have h9 := chan_err (m := m) (l := l) (by rw [← HC.out]; exact h8)
      rw [← HC.out] at h9
      exact h9
    have y0 := g7.cell 0; have y1 := g7.cell 1
    simp at y0 y1
    clear h8
    go_wp2_with (first | (go_at_call 12; refine (known_any _).mono ?_; rintro _ w9 ⟨rfl, hb9⟩; have hw := bl2 hw hb9) | fail)
    go_ret
    exact ⟨rfl, hw⟩
  obtain rfl : ce = 0 := by omega
  obtain ⟨hMO, hRB, h400⟩ := regE_ok (chan_ok (m := m) (l := l) (by rw [← HC.out])).1
  have HMO := Lib.hid hMO; have HRB := Lib.hid hRB
  clear h8 hMO hRB h400
  have hw1 : IntKind.i64.wrap ((l.length : Int) + 1) = (l.length : Int) + 1 := IntWalk.i64_in _ ⟨by omega, by omega⟩
  have hw2 : IntKind.i64.wrap cut = cut := IntWalk.i64_in _ ⟨by omega, by omega⟩
  have hne1 : ((l.length : Int) + 1 == 0) = false := by simp; omega
  obtain ⟨k, hk, hkl⟩ : ∃ k : Nat, cut.tmod ((l.length : Int) + 1) = (k : Int) ∧ k ≤ l.length := by
    have e1 : cut.tmod ((l.length : Int) + 1) = cut % ((l.length : Int) + 1) := Int.tmod_eq_emod_of_nonneg hc0
    have e2 := Int.emod_nonneg cut (show ((l.length : Int) + 1) ≠ 0 by omega)
    have e3 := Int.emod_lt_of_pos cut (show 0 < ((l.length : Int) + 1) by omega)
    exact ⟨(cut.tmod ((l.length : Int) + 1)).toNat, by omega, by omega⟩
  have hlt : (l.take k).length = k := by simp; omega
  have hld : (l.drop k).length = l.length - k := by simp
  have HTL : Hid (Sl intCell 1 w w.heap.size lA (l.take k)) := Lib.hid (sl_takeJ HL.out hkl)
  have HIT : Hid (∀ W, Below w.heap.size w W → Calls Try.prog 15 #[.slice lA k lc] W fun e w' => ∃ B q, e = .returned (.slice B k q) ∧ Sl intCell 1 w' w'.heap.size B (l.take k) ∧ Below W.heap.size W w') := Lib.hid fun W hW => (lints_any lA lc k (l.take k) W hlt (by omega) HLN.out ((HTL.out.below hW).more hW.size)).mono fun _ _ ⟨B, q, h1, h2, _, _, _, h6⟩ => ⟨B, q, h1, h2, h6⟩
  obtain ⟨A5, hA1, hA2⟩ := HL.out.from_ (fun _ => rfl) k lc HLC.out
  have hsl5 := fun W => ints_slice lA l.length lc k W hkl
  rw [hA1] at hsl5
  have hn5 : A5 = none → lc - k = 0 := fun e => by
    subst e
    rcases hA : lA with _ | ad
    · have := HLN.out hA; omega
    · rw [hA] at hA1
      simp only [sliced] at hA1
      split at hA1
      · rename_i h9
        have := congrArg (fun v => match v with | .slice _ _ c => c | _ => 0) hA1
        simp at this
        omega
      · simp at hA1
  have HID : Hid (∀ W, Below w.heap.size w W → Calls Try.prog 15 #[.slice A5 (l.length - k) (lc - k)] W fun e w' => ∃ B q, e = .returned (.slice B (l.length - k) q) ∧ Sl intCell 1 w' w'.heap.size B (l.drop k) ∧ w'.ownsRow W.heap.size 3 1 (.slice B (l.length - k) q) (l.length - k) (flat intCell (l.drop k)) ∧ Below W.heap.size W w') := Lib.hid fun W hW => (lints_any A5 (lc - k) (l.length - k) (l.drop k) W hld (by omega) hn5 ((hA2.below hW).more hW.size)).mono fun _ _ ⟨B, q, h1, h2, _, _, h5, h6⟩ => ⟨B, q, h1, h2, by rw [hld] at h5; exact h5, h6⟩
  have hs15 : ∀ W, (Instr.slice 30 (.slice lA l.length lc) none (some (.int .i64 (k : Int))) none).run Try.prog W = .ok (.slice lA k lc) W := fun W => ints_pre lA l.length lc k W hkl HLC.out
  have hkx : lA = none → k = 0 ∧ lc = 0 := fun e => ⟨by
    have h9 : l.length = 0 := by
      rcases Nat.eq_zero_or_pos l.length with h | h
      · exact h
      · obtain ⟨b, o, e2, _⟩ := HL.out.2 h; rw [e] at e2; cases e2
    omega, HLN.out e⟩
  have HKX := Lib.hid hkx
  have HLT := Lib.hid hlt
  clear hlt hld hA1 hA2 hn5 hkx
  go_upto_region 7 with fail
  obtain ⟨zb, hzb⟩ : ∃ z, z = V1.heap.size := ⟨_, rfl⟩
  have h7z : b7 < zb := by rw [hzb]; exact g7.lt
  have HZ : Hid (Below zb V1 V1.drew ∧ zb ≤ V1.drew.heap.size) := Lib.hid (by rw [hzb]; exact ⟨(Below.refl _ _).drew, (Below.refl V1.heap.size V1).drew.size⟩)
  have HWB : Hid (Below w.heap.size w V1) := Lib.hid hw
  have HZW : Hid (w.heap.size ≤ zb) := Lib.hid (by rw [hzb]; exact hw.size)
  have HG := Lib.hid g; have HG7 := Lib.hid g7
  clear hzb g g7 hw hk hw1 hw2 hne1
  go_cut [10, 11] (fun s10 s11 wx => ∃ (bb : Nat) (tA : Option Addr) (tc : Nat), s10 = .slice (some ⟨bb, 0, none⟩) 0 0 ∧ s11 = .slice tA l.length tc ∧ Hid (BkI V1 zb (.slice (some ⟨bb, 0, none⟩) 0 0) [] tA (l.drop k ++ l.take k) wx))
  case first =>
    --D< a
    as_aux_lemma =>
    refine wp_region_noPanic ?_
    refine wp_region_T (S := fun _ => True) 9 (by kernel_rfl) (by kernel_rfl) (by kernel_rfl) (by kernel_rfl) (by decide) trivial (fun hHeld => ?_)
    generalize V1.drew = U at HZ ⊢
    refine WT.takeD (i := 1) (d := some 71) (v := ?vq1) rfl rfl (by decide) (by kernel_rfl) (by kernel_rfl) (fun _ _ _ h => h) (Or.inl ⟨by rfl, ?hq1⟩) (by assumption) ?rq1
    case hq1 => (intro w hSw; (try dsimp only at hSw); go_simp; (try with_reducible rfl))
    try simp only [Act.put, List.setIfInBounds_toArray, List.set_cons_zero, List.set_cons_succ]
    refine WT.takeD (i := 2) (d := some 72) (v := ?vq2) rfl rfl (by decide) (by kernel_rfl) (by kernel_rfl) (fun _ _ _ h => h) (Or.inl ⟨by rfl, ?hq2⟩) (by assumption) ?rq2
    case hq2 => (intro w hSw; (try dsimp only at hSw); go_simp; (try with_reducible rfl))
    try simp only [Act.put, List.setIfInBounds_toArray, List.set_cons_zero, List.set_cons_succ]
    refine WT.takeD (i := 3) (d := some 73) (v := ?vq3) rfl rfl (by decide) (by kernel_rfl) (by kernel_rfl) (fun _ _ _ h => h) (Or.inl ⟨by rfl, ?hq3⟩) (by assumption) ?rq3
    case hq3 => (intro w hSw; (try dsimp only at hSw); go_simp; (try with_reducible rfl))
    try simp only [Act.put, List.setIfInBounds_toArray, List.set_cons_zero, List.set_cons_succ]
    refine WT.takeD (i := 5) (d := some 75) (v := ?vq5) rfl rfl (by decide) (by kernel_rfl) (by kernel_rfl) (fun _ _ _ h => h) (Or.inl ⟨by rfl, ?hq5⟩) (by assumption) ?rq5
    case hq5 => (intro w hSw; (try dsimp only at hSw); go_simp; (try with_reducible rfl))
    try simp only [Act.put, List.setIfInBounds_toArray, List.set_cons_zero, List.set_cons_succ]
    refine WT.takeD (i := 6) (d := some 76) (v := ?vq6) rfl rfl (by decide) (by kernel_rfl) (by kernel_rfl) (fun _ _ _ h => h) (Or.inl ⟨by rfl, ?hq6⟩) (by assumption) ?rq6
    case hq6 => (intro w hSw; (try dsimp only at hSw); go_simp; (try with_reducible rfl))
    try simp only [Act.put, List.setIfInBounds_toArray, List.set_cons_zero, List.set_cons_succ]
    refine WT.takeD (i := 7) (d := some 77) (v := ?vq7) rfl rfl (by decide) (by kernel_rfl) (by kernel_rfl) (fun _ _ _ h => h) (Or.inl ⟨by rfl, ?hq7⟩) (by assumption) ?rq7
    case hq7 => (intro w hSw; (try dsimp only at hSw); go_simp; (try with_reducible rfl))
    try simp only [Act.put, List.setIfInBounds_toArray, List.set_cons_zero, List.set_cons_succ]
    refine WT.two (i := 0) (j := 4) rfl rfl (by decide) (by decide) (by kernel_rfl) (fun K hK => ?_) (fun K hK => ?_)
    focus
      go_simp
      refine gen_al (R := K) ?_
      intro V0 hbV hbl
      obtain ⟨bb, hbb⟩ : ∃ b, b = (World.heap U).size := ⟨_, rfl⟩
      rw [← hbb] at hbl ⊢
      have HZB : Hid (zb ≤ bb) := Lib.hid (by rw [hbb]; exact HZ.out.2)
      have HZ := Lib.hid (And.intro (HZ.out.1.trans (hbV.mono HZ.out.2)) (Nat.le_trans HZ.out.2 hbV.size))
      have HB0 : Hid (Blk V0 bb #[] 3) := Lib.hid hbl
      try have HNB : Hid (some bb ≠ tv.ownBlock) := Lib.hid (by rw [hbb]; exact own_new HT.out)
      try have HT := Lib.hid (own_stp HT.out hbV)
      clear hbV hbl hbb
      refine hK.out _ _ trivial (fun hHeld => ?_)
      clear hK K
      refine WT.one (i := 4) rfl (by decide) (by kernel_rfl) (fun K hK => ?_)
      go_simp
      refine (HID.out _ (HWB.out.trans (HZ.out.1.mono HZW.out))).mono ?_
      rintro _ w4 ⟨B4, q4, rfl, -, hown4, hb4⟩
      obtain ⟨tv, htv⟩ : ∃ v : Value, v = .slice B4 (l.length - k) q4 := ⟨_, rfl⟩
      rw [← htv] at hown4 ⊢
      clear htv
      try have HNB : Hid (some bb ≠ tv.ownBlock) := Lib.hid (own_far hown4 (Blk.lt HB0.out))
      try have HB0 := Lib.hid (Blk.below HB0.out hb4 (Blk.lt HB0.out))
      have HT : Hid (w4.ownsRow zb 3 1 tv (l.length - k) (flat intCell (l.drop k))) := Lib.hid (owns_low hown4 HZ.out.2)
      have HZ := Lib.hid (And.intro (HZ.out.1.trans (hb4.mono HZ.out.2)) (Nat.le_trans HZ.out.2 hb4.size))
      clear hown4 hb4
      refine hK.out _ _ trivial (fun hHeld => ?_)
      clear hK K
      refine WT.one (i := 8) rfl (by decide) (by kernel_rfl) (fun K hK => ?_)
      refine step_app_sl (by rfl) _ _ _ (by rfl) zb 3 i0' (.int .i64 0) 1 8 uInts hInf iz0 iz1 iz2 rfl (by omega) tv (l.length - k) _ (by rfl) HT.out lA k lc (flat intCell (l.take k)) (by rfl) HKX.out (by rw [flat_int, List.length_map, HLT.out]; omega) ((HTL.out.below (HWB.out.trans (HZ.out.1.mono HZW.out))).newsAt) (fun u hu => (by rw [flat_int] at hu; obtain ⟨x, _, rfl⟩ := List.mem_map.1 hu; rfl)) (by unfold maxLen; omega) (by omega) HZ.out.2 ?_
      intro v8 w8 hown8 hgrow8 hat8
      try have HN8 : Hid (some bb ≠ v8.ownBlock) := Lib.hid (ne_at HNB.out (Blk.lt HB0.out) hat8)
      try have HB0 := Lib.hid (Blk.grown HB0.out hgrow8 HNB.out)
      try have HNB := HN8
      have HZ := Lib.hid (And.intro (HZ.out.1.grown hgrow8 HZ.out.2 (fun g hg => (HT.out.lt g hg).1)) (Nat.le_trans HZ.out.2 hgrow8.size))
      have hlx : l.length - k + k = l.length := by omega
      rw [hlx] at hown8
      clear HT
      have HT := Lib.hid hown8
      clear hown8 hgrow8 hat8 hlx
      obtain ⟨tv, htv⟩ : ∃ v : Value, v = v8 := ⟨_, rfl⟩
      rw [← htv] at HT
      try rw [← htv] at HNB
      rw [← htv]
      clear htv
      refine hK.out _ _ trivial (fun hHeld => ?_)
      clear hK K
      refine WT.last2 (n := 9) (m := 10) rfl rfl (by kernel_rfl) (by kernel_rfl) (by kernel_rfl) (fun K hK => ?_)
      go_simp
      refine hK.out _ _ (fun K2 hK2 => ?_)
      clear hK K
      go_simp
      refine hK2.out _ _ ?_
      clear hK2 K2
      refine NoPanic.normal ?_
      go_wp2_with fail
      go_meet
      have hT := HT.out
      rw [← flat_app] at hT
      have hTl : (l.drop k ++ l.take k).length = l.length := by simp; omega
      rw [← hTl] at hT
      obtain ⟨tA, tc, rfl, hts, -, -⟩ := sl_of_ownK hT
      exact ⟨bb, tA, tc, rfl, by rw [hTl], Lib.hid ⟨own_empty HB0.out HZB.out, hts, fun ad e => by subst e; exact fun e9 => HNB.out e9.symm, HZ.out.1, HZ.out.2⟩⟩
    focus
      go_simp
      refine (HID.out _ (HWB.out.trans (HZ.out.1.mono HZW.out))).mono ?_
      rintro _ w4 ⟨B4, q4, rfl, -, hown4, hb4⟩
      obtain ⟨tv, htv⟩ : ∃ v : Value, v = .slice B4 (l.length - k) q4 := ⟨_, rfl⟩
      rw [← htv] at hown4 ⊢
      clear htv
      try have HNB : Hid (some bb ≠ tv.ownBlock) := Lib.hid (own_far hown4 (Blk.lt HB0.out))
      try have HB0 := Lib.hid (Blk.below HB0.out hb4 (Blk.lt HB0.out))
      have HT : Hid (w4.ownsRow zb 3 1 tv (l.length - k) (flat intCell (l.drop k))) := Lib.hid (owns_low hown4 HZ.out.2)
      have HZ := Lib.hid (And.intro (HZ.out.1.trans (hb4.mono HZ.out.2)) (Nat.le_trans HZ.out.2 hb4.size))
      clear hown4 hb4
      refine hK.out _ _ trivial (fun hHeld => ?_)
      clear hK K
      refine WT.two (i := 0) (j := 8) rfl rfl (by decide) (by decide) (by kernel_rfl) (fun K hK => ?_) (fun K hK => ?_)
      focus
        go_simp
        refine gen_al (R := K) ?_
        intro V0 hbV hbl
        obtain ⟨bb, hbb⟩ : ∃ b, b = (World.heap w4).size := ⟨_, rfl⟩
        rw [← hbb] at hbl ⊢
        have HZB : Hid (zb ≤ bb) := Lib.hid (by rw [hbb]; exact HZ.out.2)
        have HZ := Lib.hid (And.intro (HZ.out.1.trans (hbV.mono HZ.out.2)) (Nat.le_trans HZ.out.2 hbV.size))
        have HB0 : Hid (Blk V0 bb #[] 3) := Lib.hid hbl
        try have HNB : Hid (some bb ≠ tv.ownBlock) := Lib.hid (by rw [hbb]; exact own_new HT.out)
        try have HT := Lib.hid (own_stp HT.out hbV)
        clear hbV hbl hbb
        refine hK.out _ _ trivial (fun hHeld => ?_)
        clear hK K
        refine WT.one (i := 8) rfl (by decide) (by kernel_rfl) (fun K hK => ?_)
        refine step_app_sl (by rfl) _ _ _ (by rfl) zb 3 i0' (.int .i64 0) 1 8 uInts hInf iz0 iz1 iz2 rfl (by omega) tv (l.length - k) _ (by rfl) HT.out lA k lc (flat intCell (l.take k)) (by rfl) HKX.out (by rw [flat_int, List.length_map, HLT.out]; omega) ((HTL.out.below (HWB.out.trans (HZ.out.1.mono HZW.out))).newsAt) (fun u hu => (by rw [flat_int] at hu; obtain ⟨x, _, rfl⟩ := List.mem_map.1 hu; rfl)) (by unfold maxLen; omega) (by omega) HZ.out.2 ?_
        intro v8 w8 hown8 hgrow8 hat8
        try have HN8 : Hid (some bb ≠ v8.ownBlock) := Lib.hid (ne_at HNB.out (Blk.lt HB0.out) hat8)
        try have HB0 := Lib.hid (Blk.grown HB0.out hgrow8 HNB.out)
        try have HNB := HN8
        have HZ := Lib.hid (And.intro (HZ.out.1.grown hgrow8 HZ.out.2 (fun g hg => (HT.out.lt g hg).1)) (Nat.le_trans HZ.out.2 hgrow8.size))
        have hlx : l.length - k + k = l.length := by omega
        rw [hlx] at hown8
        clear HT
        have HT := Lib.hid hown8
        clear hown8 hgrow8 hat8 hlx
        obtain ⟨tv, htv⟩ : ∃ v : Value, v = v8 := ⟨_, rfl⟩
        rw [← htv] at HT
        try rw [← htv] at HNB
        rw [← htv]
        clear htv
        refine hK.out _ _ trivial (fun hHeld => ?_)
        clear hK K
        refine WT.last2 (n := 9) (m := 10) rfl rfl (by kernel_rfl) (by kernel_rfl) (by kernel_rfl) (fun K hK => ?_)
        go_simp
        refine hK.out _ _ (fun K2 hK2 => ?_)
        clear hK K
        go_simp
        refine hK2.out _ _ ?_
        clear hK2 K2
        refine NoPanic.normal ?_
        go_wp2_with fail
        go_meet
        have hT := HT.out
        rw [← flat_app] at hT
        have hTl : (l.drop k ++ l.take k).length = l.length := by simp; omega
        rw [← hTl] at hT
        obtain ⟨tA, tc, rfl, hts, -, -⟩ := sl_of_ownK hT
        exact ⟨bb, tA, tc, rfl, by rw [hTl], Lib.hid ⟨own_empty HB0.out HZB.out, hts, fun ad e => by subst e; exact fun e9 => HNB.out e9.symm, HZ.out.1, HZ.out.2⟩⟩
      focus
        refine step_app_sl (by rfl) _ _ _ (by rfl) zb 3 i0' (.int .i64 0) 1 8 uInts hInf iz0 iz1 iz2 rfl (by omega) tv (l.length - k) _ (by rfl) HT.out lA k lc (flat intCell (l.take k)) (by rfl) HKX.out (by rw [flat_int, List.length_map, HLT.out]; omega) ((HTL.out.below (HWB.out.trans (HZ.out.1.mono HZW.out))).newsAt) (fun u hu => (by rw [flat_int] at hu; obtain ⟨x, _, rfl⟩ := List.mem_map.1 hu; rfl)) (by unfold maxLen; omega) (by omega) HZ.out.2 ?_
        intro v8 w8 hown8 hgrow8 hat8
        try have HN8 : Hid (some bb ≠ v8.ownBlock) := Lib.hid (ne_at HNB.out (Blk.lt HB0.out) hat8)
        try have HB0 := Lib.hid (Blk.grown HB0.out hgrow8 HNB.out)
        try have HNB := HN8
        have HZ := Lib.hid (And.intro (HZ.out.1.grown hgrow8 HZ.out.2 (fun g hg => (HT.out.lt g hg).1)) (Nat.le_trans HZ.out.2 hgrow8.size))
        have hlx : l.length - k + k = l.length := by omega
        rw [hlx] at hown8
        clear HT
        have HT := Lib.hid hown8
        clear hown8 hgrow8 hat8 hlx
        obtain ⟨tv, htv⟩ : ∃ v : Value, v = v8 := ⟨_, rfl⟩
        rw [← htv] at HT
        try rw [← htv] at HNB
        rw [← htv]
        clear htv
        refine hK.out _ _ trivial (fun hHeld => ?_)
        clear hK K
        refine WT.one (i := 0) rfl (by decide) (by kernel_rfl) (fun K hK => ?_)
        go_simp
        refine gen_al (R := K) ?_
        intro V0 hbV hbl
        obtain ⟨bb, hbb⟩ : ∃ b, b = (World.heap w8).size := ⟨_, rfl⟩
        rw [← hbb] at hbl ⊢
        have HZB : Hid (zb ≤ bb) := Lib.hid (by rw [hbb]; exact HZ.out.2)
        have HZ := Lib.hid (And.intro (HZ.out.1.trans (hbV.mono HZ.out.2)) (Nat.le_trans HZ.out.2 hbV.size))
        have HB0 : Hid (Blk V0 bb #[] 3) := Lib.hid hbl
        try have HNB : Hid (some bb ≠ tv.ownBlock) := Lib.hid (by rw [hbb]; exact own_new HT.out)
        try have HT := Lib.hid (own_stp HT.out hbV)
        clear hbV hbl hbb
        refine hK.out _ _ trivial (fun hHeld => ?_)
        clear hK K
        refine WT.last2 (n := 9) (m := 10) rfl rfl (by kernel_rfl) (by kernel_rfl) (by kernel_rfl) (fun K hK => ?_)
        go_simp
        refine hK.out _ _ (fun K2 hK2 => ?_)
        clear hK K
        go_simp
        refine hK2.out _ _ ?_
        clear hK2 K2
        refine NoPanic.normal ?_
        go_wp2_with fail
        go_meet
        have hT := HT.out
        rw [← flat_app] at hT
        have hTl : (l.drop k ++ l.take k).length = l.length := by simp; omega
        rw [← hTl] at hT
        obtain ⟨tA, tc, rfl, hts, -, -⟩ := sl_of_ownK hT
        exact ⟨bb, tA, tc, rfl, by rw [hTl], Lib.hid ⟨own_empty HB0.out HZB.out, hts, fun ad e => by subst e; exact fun e9 => HNB.out e9.symm, HZ.out.1, HZ.out.2⟩⟩
    --D>
  case rest =>
    obtain ⟨bb, tA, tc, rfl, rfl, HBK⟩ := hcut
    have HSL5 := Lib.hid hsl5
    have HS15 := Lib.hid hs15
    clear hsl5 hs15 HZ
    go_wp2_with fail
    go_loopw [10, 12] (fun bv iv W => ∃ (j : Nat) (d : Int), j ≤ l.length ∧ iv = .int .i64 d ∧ d + 1 = (j : Int) ∧ Hid (BkI V1 zb bv (l.drop j).reverse tA (l.drop k ++ l.take k) W)) (fun _ iv _ => (intOf iv + 1).toNat)
    case atStart => exact ⟨l.length, (l.length : Int) - 1, Nat.le_refl _, rfl, by omega, by simpa using HBK⟩
    case round =>
      clear HBK
      obtain ⟨j, d, hj, rfl, hd, HBK⟩ := hrel
      rcases j with _ | j
      · obtain rfl : d = -1 := by omega
        have hrl : l.reverse.length = l.length := by simp
        have hown := HBK.out.own
        rw [List.drop_zero] at hown
        obtain ⟨bA, bc, rfl, hbs, -, -⟩ := sl_of_ownK hown
        rw [hrl]
        have hTl : (l.drop k ++ l.take k).length = l.length := by simp; omega
        have hts := HBK.out.tur
        obtain ⟨T, hT⟩ : ∃ T, T = l.drop k ++ l.take k := ⟨_, rfl⟩
        rw [← hT] at hTl hts
        have hPT : l.Perm T := by rw [hT]; exact (List.Perm.of_eq (List.take_append_drop k l).symm).trans List.perm_append_comm
        obtain ⟨L2, hL2⟩ : ∃ L, L = l.reverse := ⟨_, rfl⟩
        rw [← hL2] at hbs hrl
        have hPL : l.Perm L2 := by rw [hL2]; exact (List.reverse_perm l).symm
        have hb := HBK.out.hb
        have g : Blk wr b3 #[.int .i64 kd, .slice A rows.length c, .int .i64 af] 25 := HG.out.below hb (by omega)
        have g7 : Blk wr b7 #[.int .i64 cn, .int .i64 cd] 27 := HG7.out.below hb h7z
        have hw : Below w.heap.size w wr := HWB.out.trans (hb.mono HZW.out)
        obtain ⟨⟨dn, dd, de⟩, hdc⟩ : ∃ q, q = chanR m L2 := ⟨_, rfl⟩
        obtain ⟨⟨gn, gd, ge⟩, hgc⟩ : ∃ q, q = chanR m T := ⟨_, rfl⟩
        have HCB : Hid (∀ W (y : Md) B k, y.m = m → y.reads W W.heap.size → Sl intCell 1 W W.heap.size B L2 → Calls Try.prog 24 #[.agg #[.int .i64 y.kind, .slice y.a y.rows.length y.c, .int .i64 y.after], .slice B l.length k] W fun e w' => e = .returned (.tuple #[.agg #[.int .i64 dn, .int .i64 dd], .int .i64 de]) ∧ Below W.heap.size W w') := Lib.hid fun W y B k h1 h2 h3 => by
          have := chanF_any y L2 B k W (by omega) h2 h3
          rw [h1, ← hdc, hrl] at this; exact this
        have HCT : Hid (∀ W (y : Md) B k, y.m = m → y.reads W W.heap.size → Sl intCell 1 W W.heap.size B T → Calls Try.prog 24 #[.agg #[.int .i64 y.kind, .slice y.a y.rows.length y.c, .int .i64 y.after], .slice B l.length k] W fun e w' => e = .returned (.tuple #[.agg #[.int .i64 gn, .int .i64 gd], .int .i64 ge]) ∧ Below W.heap.size W w') := Lib.hid fun W y B k h1 h2 h3 => by
          have := chanF_any y T B k W (by omega) h2 h3
          rw [h1, ← hgc, hTl] at this; exact this
        have HEB : Hid (kd = 1 → de = 0 → dn = cn ∧ dd = cd) := Lib.hid fun h1 h2 => by
          have h9 := chan_perm (m := m) (by rw [HM.out]; exact h1) hPL (by rw [← HC.out]) (by rw [← hdc]; exact h2)
          rw [← hdc, ← HC.out] at h9
          exact h9
        have HET : Hid (kd = 1 → ge = 0 → gn = cn ∧ gd = cd) := Lib.hid fun h1 h2 => by
          have h9 := chan_perm (m := m) (by rw [HM.out]; exact h1) hPT (by rw [← HC.out]) (by rw [← hgc]; exact h2)
          rw [← hgc, ← HC.out] at h9
          exact h9
        clear hown HBK hb hT hL2 hPT hPL hdc hgc hrl hTl hd
        (have z0 := g.cell 0; have z1 := g.cell 1; have z2 := g.cell 2; simp at z0 z1 z2)
        obtain ⟨q1, hq1⟩ : ∃ q, q = (kd == 1) := ⟨_, rfl⟩
        have q1e : (kd == 1) = q1 := hq1.symm
        have HQ1 := Lib.hid hq1
        clear hq1
        go_upto_if 95 with fail
        go_cut [] (fun wx => Blk wx b3 #[.int .i64 kd, .slice A rows.length c, .int .i64 af] 25 ∧ Blk wx b7 #[.int .i64 cn, .int .i64 cd] 27 ∧ Below w.heap.size w wx)
        case first =>
          --D< c
          as_aux_lemma =>
          cases q1 with
          | true =>
            have hk1 : kd = 1 := by have := HQ1.out.symm; simpa using this
            have heb := HEB.out hk1
            have het := HET.out hk1
            have HEB := Lib.hid heb; have HET := Lib.hid het
            clear heb het hk1 q1e HQ1
            go_upto_region 14 with (first | (go_at_call 14; (with_reducible refine (HOA.out _ hw).mono ?_); rintro _ w2 ⟨y, rfl, hy, hyr, -, hb2, -, -⟩; have g := g.below hb2 g.lt; have g7 := g7.below hb2 g7.lt; have hw := bl2 hw hb2; have hbs := (hbs.below hb2).more hb2.size; have hts := (hts.below hb2).more hb2.size; clear z0 z1 z2; (have z0 := g.cell 0; have z1 := g.cell 1; have z2 := g.cell 2; simp at z0 z1 z2)) | (go_at_call 24; (with_reducible refine (HCB.out _ _ _ _ hy hyr hbs).mono ?_); rintro _ w5 ⟨rfl, hb5⟩; have g := g.below hb5 g.lt; have g7 := g7.below hb5 g7.lt; have hw := bl2 hw hb5; have hts := (hts.below hb5).more hb5.size; clear z0 z1 z2; (have z0 := g.cell 0; have z1 := g.cell 1; have z2 := g.cell 2; simp at z0 z1 z2)) | fail)
            obtain ⟨b13, hb13⟩ : ∃ q, q = w5.heap.size := ⟨_, rfl⟩
            have gl := g.lt
            have gl7 := g7.lt
            refine gen_w (fun W => Blk W b3 #[.int .i64 kd, .slice A rows.length c, .int .i64 af] 25 ∧ Blk W b7 #[.int .i64 cn, .int .i64 cd] 27 ∧ Blk W b13 #[.int .i64 dn, .int .i64 dd] 27 ∧ Below w.heap.size w W ∧ Sl intCell 1 W W.heap.size tA T) ⟨g.alloc _, g7.alloc _, Blk.at_ hb13, bla hw, hts.allocS _⟩ ?_
            rw [← hb13]
            clear g g7 hw hts hbs hyr hb13 gl gl7 z0 z1 z2
            rintro V3 ⟨g, g7, g13, hw, hts⟩
            (have z0 := g.cell 0; have z1 := g.cell 1; have z2 := g.cell 2; simp at z0 z1 z2)
            go_upto_region 15 with (first | (go_at_call 14; (with_reducible refine (HOA.out _ hw).mono ?_); rintro _ w2 ⟨y, rfl, hy, hyr, -, hb2, -, -⟩; have g := g.below hb2 g.lt; have g7 := g7.below hb2 g7.lt; have g13 := g13.below hb2 g13.lt; have hw := bl2 hw hb2; have hts := (hts.below hb2).more hb2.size; clear z0 z1 z2; (have z0 := g.cell 0; have z1 := g.cell 1; have z2 := g.cell 2; simp at z0 z1 z2)) | (go_at_call 24; (with_reducible refine (HCT.out _ _ _ _ hy hyr hts).mono ?_); rintro _ w5 ⟨rfl, hb5⟩; have g := g.below hb5 g.lt; have g7 := g7.below hb5 g7.lt; have g13 := g13.below hb5 g13.lt; have hw := bl2 hw hb5; clear z0 z1 z2; (have z0 := g.cell 0; have z1 := g.cell 1; have z2 := g.cell 2; simp at z0 z1 z2)) | fail)
            obtain ⟨b15, hb15⟩ : ∃ q, q = w5.heap.size := ⟨_, rfl⟩
            refine gen_w (fun W => Blk W b3 #[.int .i64 kd, .slice A rows.length c, .int .i64 af] 25 ∧ Blk W b7 #[.int .i64 cn, .int .i64 cd] 27 ∧ Blk W b13 #[.int .i64 dn, .int .i64 dd] 27 ∧ Blk W b15 #[.int .i64 gn, .int .i64 gd] 27 ∧ Below w.heap.size w W) ⟨g.alloc _, g7.alloc _, g13.alloc _, Blk.at_ hb15, bla hw⟩ ?_
            rw [← hb15]
            clear g g7 g13 hw hts hyr hb15 z0 z1 z2
            rintro V4 ⟨g, g7, g13, g15, hw⟩
            have x0 := g7.cell 0; have x1 := g7.cell 1; have y0 := g13.cell 0; have y1 := g13.cell 1; have u0 := g15.cell 0; have u1 := g15.cell 1
            simp at x0 x1 y0 y1 u0 u1
            by_cases hde : de = 0
            · obtain ⟨rfl, rfl⟩ := HEB.out hde
              subst hde
              by_cases hge : ge = 0
              · obtain ⟨rfl, rfl⟩ := HET.out hge
                subst hge
                go_wp2_with fail
                go_meet
                exact ⟨g, g7, hw⟩
              · have qg : (ge == 0) = false := by simp; exact hge
                clear hge HET
                go_wp2_with fail
                go_meet
                exact ⟨g, g7, hw⟩
            · have qe : (de == 0) = false := by simp; exact hde
              clear hde HEB
              by_cases hge : ge = 0
              · obtain ⟨rfl, rfl⟩ := HET.out hge
                subst hge
                go_wp2_with fail
                go_meet
                exact ⟨g, g7, hw⟩
              · have qg : (ge == 0) = false := by simp; exact hge
                clear hge HET
                go_wp2_with fail
                go_meet
                exact ⟨g, g7, hw⟩
          | false =>
            go_wp2_with fail
            go_meet
            exact ⟨g, g7, hw⟩
          --D>
        case rest =>
          clear HEB HET HCB HCT hbs hts g g7 hw z0 z1 z2
          obtain ⟨g, g7, hw⟩ := hcut
          as_aux_lemma =>
          have g3l := g.lt; have g7l := g7.lt; have hwl := hw.size
          (have z0 := g.cell 0; have z1 := g.cell 1; have z2 := g.cell 2; simp at z0 z1 z2)
          obtain ⟨R, hR⟩ : ∃ R, R = m.rows := ⟨_, rfl⟩
          have hme : m = ⟨kd, R, af⟩ := by rw [hR, HM.out]; rfl
          have HME := Lib.hid hme
          have hRr : R = rows.map LL.l := by rw [hR, HM.out]; rfl
          have hRl : R.length ≤ 1000000 := by rw [hRr, List.length_map]; exact (HRD.out _ (Below.refl _ _)).len
          have hRq : ∀ r ∈ R, r.length ≤ 1000000 := fun r hr => by
            rw [hRr] at hr
            obtain ⟨q, hq, rfl⟩ := List.mem_map.1 hr
            exact (HRD.out _ (Below.refl _ _)).rl q hq
          have HRL := Lib.hid hRl; have HRQ := Lib.hid hRq
          obtain ⟨nR, hnR⟩ : ∃ n, n = R.length := ⟨_, rfl⟩
          have HNR := Lib.hid hnR
          clear hme hR hRr hRl hRq hnR
          go_upto_region 18 with (first | (go_at_call 14; (with_reducible refine (HOA.out _ hw).mono ?_); rintro _ w2 ⟨y, rfl, hy, hyr, -, hb2, how, hsp⟩; have g := g.below hb2 g.lt; have g7 := g7.below hb2 g7.lt; have hbz := hb2.size; have hw := bl2 hw hb2; clear z0 z1 z2; (have z0 := g.cell 0; have z1 := g.cell 1; have z2 := g.cell 2; simp at z0 z1 z2)) | fail)
          obtain ⟨base, hbase⟩ : ∃ q, q = wc.heap.size := ⟨_, rfl⟩
          rw [← hbase] at how
          have h3b : b3 < base := by rw [hbase]; exact g3l
          have h7b : b7 < base := by rw [hbase]; exact g7l
          have hbb : base ≤ w2.heap.size := by rw [hbase]; exact hbz
          have hwb2 : w.heap.size ≤ base := by rw [hbase]; exact hwl
          obtain ⟨b17, hb17⟩ : ∃ q, q = w2.heap.size := ⟨_, rfl⟩
          have hyk : y.kind = kd ∧ y.rows.map LL.l = R ∧ y.after = af := by
            rw [HME.out] at hy
            have h1 := congrArg HMd.kind hy; have h2 := congrArg HMd.rows hy; have h3 := congrArg HMd.after hy
            exact ⟨h1, h2, h3⟩
          have hyn : y.rows.length = nR := by rw [HNR.out, ← hyk.2.1, List.length_map]
          have HT0 : Hid (TwR w base (.slice y.a y.rows.length y.c) R b17 0 0 y.rows w2) := Lib.hid (by rw [← hyk.2.1]; exact TwR.start how hsp (by rw [hb17]; exact Nat.le_refl _) hw)
          obtain ⟨yk, yA, yc, yrows, yaf⟩ := y
          simp only at hyk hyn HT0 ⊢
          obtain ⟨hk1, -, hk2⟩ := hyk
          rw [hyn] at HT0
          rw [hk1, hk2, hyn, ← hb17]
          refine gen_w (fun W => Blk W b3 #[.int .i64 kd, .slice A rows.length c, .int .i64 af] 25 ∧ Blk W b7 #[.int .i64 cn, .int .i64 cd] 27 ∧ Blk W b17 #[.int .i64 kd, .slice yA nR yc, .int .i64 af] 25 ∧ Hid (TwR w base (.slice yA nR yc) R b17 0 0 yrows W)) ⟨g.alloc _, g7.alloc _, Blk.at_ hb17, Lib.hid (HT0.out.below ((Below.refl _ _).alloc (Nat.le_refl _) _))⟩ ?_
          have hNl : nR ≤ 1000000 := by rw [HNR.out]; exact HRL.out
          clear g g7 hw hy hyr hb2 how hsp hk1 hk2 hyn HT0 z0 z1 z2 hb17 hbz hbb hbase g3l g7l hwl
          rintro V6 ⟨g, g7, g17, HT⟩
          go_wp2_with fail
          go_loopw [18] (fun iv W => ∃ (i : Nat) (ls : List LL), i ≤ nR ∧ iv = .int .i64 (i : Int) ∧ Blk W b3 #[.int .i64 kd, .slice A rows.length c, .int .i64 af] 25 ∧ Blk W b7 #[.int .i64 cn, .int .i64 cd] 27 ∧ Blk W b17 #[.int .i64 kd, .slice yA nR yc, .int .i64 af] 25 ∧ Hid (TwR w base (.slice yA nR yc) R b17 i 0 ls W)) (fun iv _ => nR - (intOf iv).toNat)
          case atStart => exact ⟨0, yrows, by omega, rfl, g, g7, g17, HT⟩
          case round =>
            clear g g7 g17 HT
            obtain ⟨i, ls, hi, rfl, g, g7, g17, HT⟩ := hrel
            by_cases hlt : i < nR
            · --D< d
              as_aux_lemma =>
              have p1 := g17.cell 1
              simp at p1
              obtain ⟨rl, hrl⟩ : ∃ n, n = (R.getD i []).length := ⟨_, rfl⟩
              have hrb : rl ≤ 1000000 := by
                rw [hrl, List.getD_eq_getElem?_getD, List.getElem?_eq_getElem (by rw [← HNR.out]; exact hlt)]
                exact HRQ.out _ (List.getElem_mem _)
              have HRE := Lib.hid hrl
              have i0 : (0 : Int) ≤ (i : Int) := by omega
              have i1 : (i : Int) < (nR : Int) := by omega
              clear hrl
              go_wp2_with fail
              go_loopw [19] (fun kv W => ∃ (k : Nat) (ls : List LL), k ≤ rl ∧ kv = .int .i64 (k : Int) ∧ Blk W b3 #[.int .i64 kd, .slice A rows.length c, .int .i64 af] 25 ∧ Blk W b7 #[.int .i64 cn, .int .i64 cd] 27 ∧ Blk W b17 #[.int .i64 kd, .slice yA nR yc, .int .i64 af] 25 ∧ Hid (TwR w base (.slice yA nR yc) R b17 i k ls W)) (fun kv _ => rl - (intOf kv).toNat)
              case atStart => exact ⟨0, ls, by omega, rfl, g, g7, g17, HT⟩
              case round =>
                clear g g7 g17 HT p1
                obtain ⟨k, ls, hk, rfl, g, g7, g17, HT⟩ := hrel
                have p1 := g17.cell 1
                simp at p1
                obtain ⟨ob, oo, rfl, ra, rc, hcell, hra⟩ := HT.out.cell (by rw [← HNR.out]; exact hlt)
                rw [← HRE.out] at hcell
                by_cases hkl : k < rl
                · obtain ⟨hil, gr, cap, e1, e2, hgt, hgb, -, hfz, hxc, HT2⟩ := HT.out.step (by rw [← HNR.out]; exact hlt) (by rw [← HRE.out]; exact hkl) hwb2
                  obtain ⟨q1, q2⟩ := hra hil
                  rw [e1] at q1
                  subst q1
                  obtain ⟨xv, hxv⟩ : ∃ x, x = (R.getD i []).getD k 0 := ⟨_, rfl⟩
                  rw [← hxv] at hxc HT2
                  have hxb : 0 ≤ xv ∧ xv ≤ 1000 := by
                    have hiR : i < R.length := by rw [← HNR.out]; exact hlt
                    have hm9 : R[i] ∈ m.rows := by rw [HME.out]; exact List.getElem_mem hiR
                    have hr9 := (HMO.out.row _ hm9).2.1
                    have hg9 : R.getD i [] = R[i] := by rw [List.getD_eq_getElem?_getD, List.getElem?_eq_getElem hiR]; rfl
                    have hk9 : k < R[i].length := by rw [← hg9, ← HRE.out]; exact hkl
                    rw [hxv, hg9, List.getD_eq_getElem?_getD, List.getElem?_eq_getElem hk9]
                    exact hr9 _ (List.getElem_mem hk9)
                  have wx : IntKind.i64.wrap (xv * 2) = 2 * xv := by rw [Int.mul_comm]; exact IntWalk.i64_in _ ⟨by omega, by omega⟩
                  have HT3 := Lib.hid HT2
                  have k0 : (0 : Int) ≤ (k : Int) := by omega
                  have k1 : (k : Int) < (rl : Int) := by omega
                  clear HT2 hxv hra e1 e2 q2
                  go_wp2_with fail
                  refine ⟨⟨k + 1, _, by omega, by go_num, g.far ⟨gr, k, none⟩ (by show b3 ≠ gr; omega) _, g7.far ⟨gr, k, none⟩ (by show b7 ≠ gr; omega) _, g17.far ⟨gr, k, none⟩ (by show b17 ≠ gr; omega) _, HT3⟩, ?_⟩
                  simp [intOf]; omega
                · obtain rfl : k = rl := by omega
                  clear hra
                  go_wp2_with fail
                  refine ⟨⟨i + 1, ls, by omega, by go_num, g, g7, g17, Lib.hid ?_⟩, by simp [intOf]; omega⟩
                  have h9 := HT.out
                  rw [HRE.out] at h9
                  exact h9.next
              --D>
            · obtain rfl : nR = i := by omega
              have hww := HT.out.hw
              have h9 := HT.out
              rw [HNR.out] at h9
              obtain ⟨hln, hrd2, hmd⟩ := h9.md HRL.out HRQ.out kd af
              have hno : ∀ r ∈ ls, r.a = none → r.c = 0 := fun r hr e => by
                rcases (HT.out.ow.rows r hr).2 with ⟨h1, _⟩ | ⟨g, cap, cur, h1, _⟩
                · unfold LL.val at h1; injection h1
                · unfold LL.val at h1; injection h1 with h2; rw [e] at h2; cases h2
              rw [← HME.out] at hmd
              rw [← HNR.out] at hln
              have HOT : Hid (∀ W, Below wr.heap.size wr W → Calls Try.prog 14 #[.agg #[.int .i64 kd, .slice yA nR yc, .int .i64 af]] W fun e w' => ∃ y : Md, e = .returned (.agg #[.int .i64 y.kind, .slice y.a y.rows.length y.c, .int .i64 y.after]) ∧ y.m = m.db ∧ y.reads w' w'.heap.size ∧ Below W.heap.size W w') := Lib.hid fun W hW => by
                have h8 := lownH0_any kd yA yc ls af W ((hrd2.below hW).more hW.size) hno
                rw [hln] at h8
                exact h8.mono fun _ _ ⟨y, h1, h2, h3, _, h5, _⟩ => ⟨y, h1, h2.trans hmd, h3, h5⟩
              obtain ⟨er2, her2⟩ : ∃ e, e = modE m.db := ⟨_, rfl⟩
              have HCK2 : Hid (∀ W (y : Md), y.m = m.db → y.reads W W.heap.size → Calls Try.prog 23 #[.agg #[.int .i64 y.kind, .slice y.a y.rows.length y.c, .int .i64 y.after]] W fun e w' => e = .returned (.int .i64 er2) ∧ Below W.heap.size W w') := Lib.hid fun W y h1 h2 => by
                rw [her2, ← h1]; exact checkM_of y W h2
              have hl60 := HL60.out
              have hm3 : m.kind = kd := by rw [HME.out]
              have HDB : Hid (er2 = 0 → ModOk m.db) := Lib.hid fun h => by
                rw [her2] at h
                unfold modE at h
                split at h
                · rename_i h8; exact modB_iff.1 h8
                · cases h
              have HCD : Hid (kd ≠ 3 → er2 = 0 → ∀ W (y : Md) B k, y.m = m.db → y.reads W W.heap.size → Sl intCell 1 W W.heap.size B l → Calls Try.prog 24 #[.agg #[.int .i64 y.kind, .slice y.a y.rows.length y.c, .int .i64 y.after], .slice B l.length k] W fun e w' => e = .returned (.tuple #[.agg #[.int .i64 cn, .int .i64 cd], .int .i64 0]) ∧ Below W.heap.size W w') := Lib.hid fun h1 h2 W y B k h3 h4 h5 => by
                have := chanF_any y l B k W (by omega) h4 h5
                rw [h3, chan_db (by rw [hm3]; exact h1) (HDB.out h2) (by rw [← HC.out]), ← HC.out] at this; exact this
              have HCM : Hid (kd ≠ 3 → er2 = 0 → ∀ W (y1 y2 : Md) B k, y1.m = m.db → y2.m = m → y1.reads W W.heap.size → y2.reads W W.heap.size → Sl intCell 1 W W.heap.size B l → Calls Try.prog 13 #[.agg #[.int .i64 y1.kind, .slice y1.a y1.rows.length y1.c, .int .i64 y1.after], .agg #[.int .i64 y2.kind, .slice y2.a y2.rows.length y2.c, .int .i64 y2.after], .slice B l.length k] W fun e w' => e = .returned (.tuple #[.int .i64 0, .int .i64 0]) ∧ Below W.heap.size W w') := Lib.hid fun h1 h2 W y1 y2 B k h3 h4 h5 h6 h7 => by
                have := habCmp_any y1 y2 l B k W (by omega) h5 h6 h7
                rw [h3, h4, cmpR_db (by rw [hm3]; exact h1) (HDB.out h2) HMO.out HRB.out (by omega)] at this
                exact this
              have hb : Below wr.heap.size wr wr := Below.refl _ _
              have hw := hww
              clear hww h9 hln hrd2 hmd hno her2 hm3 HT HDB
              (have p0 := g17.cell 0; have p1 := g17.cell 1; have p2 := g17.cell 2; simp at p0 p1 p2)
              go_upto_region 25 with fail
              clear p0 p1 p2
              obtain ⟨q, hq⟩ : ∃ q, q = ((kd != 3) && (er2 == 0)) := ⟨_, rfl⟩
              have HQ := Lib.hid hq
              clear hq
              go_cut [163] (fun s163 wx => s163 = .bool q ∧ Blk wx b3 #[.int .i64 kd, .slice A rows.length c, .int .i64 af] 25 ∧ Blk wx b7 #[.int .i64 cn, .int .i64 cd] 27 ∧ Blk wx b17 #[.int .i64 kd, .slice yA nR yc, .int .i64 af] 25 ∧ Below w.heap.size w wx ∧ Below wr.heap.size wr wx)
              case first =>
                --D< e
                as_aux_lemma =>
                (have z0 := g.cell 0; have z1 := g.cell 1; have z2 := g.cell 2; simp at z0 z1 z2)
                (have p0 := g17.cell 0; have p1 := g17.cell 1; have p2 := g17.cell 2; simp at p0 p1 p2)
                have hq := HQ.out
                clear HQ HCD HCM
                cases q3 : (kd != 3) with
                | false =>
                  rw [q3, Bool.false_and] at hq
                  subst hq
                  go_wp2_with fail
                  go_meet
                  exact ⟨rfl, g, g7, g17, hw, hb⟩
                | true =>
                  rw [q3, Bool.true_and] at hq
                  have hq2 := hq.symm
                  clear hq
                  go_wp2_with (first | (go_at_call 14; (with_reducible refine (HOT.out _ hb).mono ?_); rintro _ w2 ⟨y, rfl, hy, hyr, hb2⟩; have g := g.below hb2 g.lt; have g7 := g7.below hb2 g7.lt; have g17 := g17.below hb2 g17.lt; have hw := bl2 hw hb2; have hb := bl2 hb hb2; clear z0 z1 z2 p0 p1 p2; (have z0 := g.cell 0; have z1 := g.cell 1; have z2 := g.cell 2; simp at z0 z1 z2); (have p0 := g17.cell 0; have p1 := g17.cell 1; have p2 := g17.cell 2; simp at p0 p1 p2)) | (go_at_call 23; (with_reducible refine (HCK2.out _ _ hy hyr).mono ?_); rintro _ w3 ⟨rfl, hb3⟩; have g := g.below hb3 g.lt; have g7 := g7.below hb3 g7.lt; have g17 := g17.below hb3 g17.lt; have hw := bl2 hw hb3; have hb := bl2 hb hb3; clear z0 z1 z2 p0 p1 p2; (have z0 := g.cell 0; have z1 := g.cell 1; have z2 := g.cell 2; simp at z0 z1 z2); (have p0 := g17.cell 0; have p1 := g17.cell 1; have p2 := g17.cell 2; simp at p0 p1 p2)) | fail)
                  go_meet
                  exact ⟨rfl, g, g7, g17, hw, hb⟩
                --D>
              case rest =>
                clear g g7 g17 hw hb
                obtain ⟨rfl, g, g7, g17, hw, hb⟩ := hcut
                go_upto_if 163 with fail
                go_cut [] (fun wx => Blk wx b3 #[.int .i64 kd, .slice A rows.length c, .int .i64 af] 25 ∧ Below w.heap.size w wx)
                case first =>
                  --D< f
                  as_aux_lemma =>
                  cases q with
                  | false =>
                    go_wp2_with fail
                    go_meet
                    exact ⟨g, hw⟩
                  | true =>
                    have hq := HQ.out.symm
                    have hk3 : kd ≠ 3 ∧ er2 = 0 := by simpa using hq
                    have hcd := HCD.out hk3.1 hk3.2
                    have hcm := HCM.out hk3.1 hk3.2
                    have HCD := Lib.hid hcd
                    have HCM := Lib.hid hcm
                    clear hq HQ hk3 hcd hcm
                    (have z0 := g.cell 0; have z1 := g.cell 1; have z2 := g.cell 2; simp at z0 z1 z2)
                    (have p0 := g17.cell 0; have p1 := g17.cell 1; have p2 := g17.cell 2; simp at p0 p1 p2)
                    go_upto_region 27 with (first | (go_at_call 14; (with_reducible refine (HOT.out _ hb).mono ?_); rintro _ w2 ⟨y, rfl, hy, hyr, hb2⟩; have g := g.below hb2 g.lt; have g7 := g7.below hb2 g7.lt; have g17 := g17.below hb2 g17.lt; have hw := bl2 hw hb2; have hb := bl2 hb hb2; clear z0 z1 z2 p0 p1 p2; (have z0 := g.cell 0; have z1 := g.cell 1; have z2 := g.cell 2; simp at z0 z1 z2); (have p0 := g17.cell 0; have p1 := g17.cell 1; have p2 := g17.cell 2; simp at p0 p1 p2)) | (go_at_call 15; (with_reducible refine (HIN.out _ hw).mono ?_); rintro _ w4 ⟨B, k, rfl, hs, -, -, -, hb4⟩; have g := g.below hb4 g.lt; have g7 := g7.below hb4 g7.lt; have g17 := g17.below hb4 g17.lt; have hw := bl2 hw hb4; have hb := bl2 hb hb4; have hyr := (hyr.below hb4).more hb4.size; clear z0 z1 z2 p0 p1 p2; (have z0 := g.cell 0; have z1 := g.cell 1; have z2 := g.cell 2; simp at z0 z1 z2); (have p0 := g17.cell 0; have p1 := g17.cell 1; have p2 := g17.cell 2; simp at p0 p1 p2)) | (go_at_call 24; (with_reducible refine (HCD.out _ _ _ _ hy hyr hs).mono ?_); rintro _ w5 ⟨rfl, hb5⟩; have g := g.below hb5 g.lt; have g7 := g7.below hb5 g7.lt; have g17 := g17.below hb5 g17.lt; have hw := bl2 hw hb5; have hb := bl2 hb hb5; clear z0 z1 z2 p0 p1 p2; (have z0 := g.cell 0; have z1 := g.cell 1; have z2 := g.cell 2; simp at z0 z1 z2); (have p0 := g17.cell 0; have p1 := g17.cell 1; have p2 := g17.cell 2; simp at p0 p1 p2)) | fail)
                    obtain ⟨b20, hb20⟩ : ∃ q, q = w5.heap.size := ⟨_, rfl⟩
                    rw [← hb20]
                    refine gen_w (fun W => Blk W b3 #[.int .i64 kd, .slice A rows.length c, .int .i64 af] 25 ∧ Blk W b7 #[.int .i64 cn, .int .i64 cd] 27 ∧ Blk W b17 #[.int .i64 kd, .slice yA nR yc, .int .i64 af] 25 ∧ Blk W b20 #[.int .i64 cn, .int .i64 cd] 27 ∧ Below w.heap.size w W ∧ Below wr.heap.size wr W) ⟨g.alloc _, g7.alloc _, g17.alloc _, Blk.at_ hb20, bla hw, bla hb⟩ ?_
                    clear g g7 g17 hw hb hyr hs hb20 z0 z1 z2 p0 p1 p2 HCD
                    rintro V8 ⟨g, g7, g17, g20, hw, hb⟩
                    have hl3 := g.lt; have hl17 := g17.lt; have hl7 := g7.lt; have hl20 := g20.lt
                    have hS : ∀ W, Below V8.heap.size V8 W → W.cell? ⟨b3, 0, none⟩ = some (.int .i64 kd) ∧ W.cell? ⟨b3, 1, none⟩ = some (.slice A rows.length c) ∧ W.cell? ⟨b3, 2, none⟩ = some (.int .i64 af) ∧ W.cell? ⟨b17, 0, none⟩ = some (.int .i64 kd) ∧ W.cell? ⟨b17, 1, none⟩ = some (.slice yA nR yc) ∧ W.cell? ⟨b17, 2, none⟩ = some (.int .i64 af) := fun W hW => by
                      have g := g.below hW hl3
                      have g17 := g17.below hW hl17
                      (have z0 := g.cell 0; have z1 := g.cell 1; have z2 := g.cell 2; simp at z0 z1 z2)
                      (have p0 := g17.cell 0; have p1 := g17.cell 1; have p2 := g17.cell 2; simp at p0 p1 p2)
                      exact ⟨z0, z1, z2, p0, p1, p2⟩
                    refine' wp_region_planE [.eff, .eff, .eff, .eff, .eff, .eff, .eff, .eff, .eff, .eff, .eff, .eff] [Det _, OwnT m.db, Det _, OwnT m, Det _, IntsT l l.length, Det (.tuple #[.int .i64 0, .int .i64 0]), Det (.tuple #[.int .i64 0, .int .i64 0]), Det (.int .i64 0), Det (.int .i64 0), Det _, Det _] [(11, 23), (10, 22), (9, 181), (8, 180), (7, 172), (6, 179), (5, 178), (4, 177), (3, 176), (2, 175), (1, 174), (0, 173)] (by kernel_rfl) (by kernel_rfl) (by kernel_rfl) (by kernel_rfl) (by kernel_rfl) (by kernel_rfl) (by kernel_rfl) ?hp2 ?hend2 ?hst2
                    case hp2 =>
                      refine And.intro ⟨[], by kernel_rfl, fun xs W hW hf K hK => opV_free rfl ?_⟩ ?_
                      focus (have hs := hS W hW; (try simp only [factsL, pickF, Det, and_true] at hf); (try simp only [putL, Act.put, List.setIfInBounds_toArray, List.set_cons_zero, List.set_cons_succ]); (try simp only [hf]); go_simp; refine hK.out _ _ (Below.refl _ _) ?_; unfold Det; rfl)
                      refine And.intro ⟨[(0, 173)], by kernel_rfl, fun xs W hW hf K hK => opV_free rfl ?_⟩ ?_
                      · simp only [factsL, pickF, Det, and_true] at hf
                        (try simp only [putL, Act.put, List.setIfInBounds_toArray, List.set_cons_zero, List.set_cons_succ])
                        simp only [hf]
                        go_simp
                        refine (HOT.out _ (bl2 hb hW)).mono ?_
                        rintro _ w9 ⟨y, rfl, hy, hr, hb9⟩
                        exact ⟨_, rfl, hK.out _ _ hb9 ⟨y, rfl, hy, hr⟩⟩
                      refine And.intro ⟨[], by kernel_rfl, fun xs W hW hf K hK => opV_free rfl ?_⟩ ?_
                      focus (have hs := hS W hW; (try simp only [factsL, pickF, Det, and_true] at hf); (try simp only [putL, Act.put, List.setIfInBounds_toArray, List.set_cons_zero, List.set_cons_succ]); (try simp only [hf]); go_simp; refine hK.out _ _ (Below.refl _ _) ?_; unfold Det; rfl)
                      refine And.intro ⟨[(2, 175)], by kernel_rfl, fun xs W hW hf K hK => opV_free rfl ?_⟩ ?_
                      · simp only [factsL, pickF, Det, and_true] at hf
                        (try simp only [putL, Act.put, List.setIfInBounds_toArray, List.set_cons_zero, List.set_cons_succ])
                        simp only [hf]
                        go_simp
                        refine (HOA.out _ (bl2 hw hW)).mono ?_
                        rintro _ w9 ⟨y, rfl, hy, hr, -, hb9, -, -⟩
                        exact ⟨_, rfl, hK.out _ _ hb9 ⟨y, rfl, hy, hr⟩⟩
                      refine And.intro ⟨[], by kernel_rfl, fun xs W hW hf K hK => opV_free rfl ?_⟩ ?_
                      focus (have hs := hS W hW; (try simp only [factsL, pickF, Det, and_true] at hf); (try simp only [putL, Act.put, List.setIfInBounds_toArray, List.set_cons_zero, List.set_cons_succ]); (try simp only [hf]); go_simp; refine hK.out _ _ (Below.refl _ _) ?_; unfold Det; rfl)
                      refine And.intro ⟨[(4, 177)], by kernel_rfl, fun xs W hW hf K hK => opV_free rfl ?_⟩ ?_
                      · simp only [factsL, pickF, Det, and_true] at hf
                        (try simp only [putL, Act.put, List.setIfInBounds_toArray, List.set_cons_zero, List.set_cons_succ])
                        simp only [hf]
                        go_simp
                        refine (HIN.out _ (bl2 hw hW)).mono ?_
                        rintro _ w9 ⟨B, k, rfl, hs, -, -, -, hb9⟩
                        exact ⟨_, rfl, hK.out _ _ hb9 ⟨B, k, rfl, hs⟩⟩
                      refine And.intro ⟨[(5, 178), (3, 176), (1, 174)], by kernel_rfl, fun xs W hW hf K hK => opV_free rfl ?_⟩ ?_
                      · simp only [factsL, pickF, Det, and_true] at hf
                        (try simp only [putL, Act.put, List.setIfInBounds_toArray, List.set_cons_zero, List.set_cons_succ])
                        obtain ⟨⟨B, k, e1, hs⟩, ⟨y2, e2, hy2, hr2⟩, ⟨y1, e3, hy1, hr1⟩⟩ := hf
                        simp only [e1, e2, e3]
                        go_simp
                        refine (HCM.out _ y1 y2 B k hy1 hy2 hr1 hr2 hs).mono ?_
                        rintro _ w9 ⟨rfl, hb9⟩
                        exact ⟨_, rfl, hK.out _ _ hb9 rfl⟩
                      refine And.intro ⟨[(6, 179)], by kernel_rfl, fun xs W hW hf K hK => opV_free rfl ?_⟩ ?_
                      focus (have hs := hS W hW; (try simp only [factsL, pickF, Det, and_true] at hf); (try simp only [putL, Act.put, List.setIfInBounds_toArray, List.set_cons_zero, List.set_cons_succ]); (try simp only [hf]); go_simp; refine hK.out _ _ (Below.refl _ _) ?_; unfold Det; rfl)
                      refine And.intro ⟨[(7, 172)], by kernel_rfl, fun xs W hW hf K hK => opV_free rfl ?_⟩ ?_
                      focus (have hs := hS W hW; (try simp only [factsL, pickF, Det, and_true] at hf); (try simp only [putL, Act.put, List.setIfInBounds_toArray, List.set_cons_zero, List.set_cons_succ]); (try simp only [hf]); go_simp; refine hK.out _ _ (Below.refl _ _) ?_; unfold Det; rfl)
                      refine And.intro ⟨[(7, 172)], by kernel_rfl, fun xs W hW hf K hK => opV_free rfl ?_⟩ ?_
                      focus (have hs := hS W hW; (try simp only [factsL, pickF, Det, and_true] at hf); (try simp only [putL, Act.put, List.setIfInBounds_toArray, List.set_cons_zero, List.set_cons_succ]); (try simp only [hf]); go_simp; refine hK.out _ _ (Below.refl _ _) ?_; unfold Det; rfl)
                      refine And.intro ⟨[(8, 180)], by kernel_rfl, fun xs W hW hf K hK => opV_free rfl ?_⟩ ?_
                      focus (have hs := hS W hW; (try simp only [factsL, pickF, Det, and_true] at hf); (try simp only [putL, Act.put, List.setIfInBounds_toArray, List.set_cons_zero, List.set_cons_succ]); (try simp only [hf]); go_simp; refine hK.out _ _ (Below.refl _ _) ?_; unfold Det; rfl)
                      refine And.intro ⟨[(9, 181)], by kernel_rfl, fun xs W hW hf K hK => opV_free rfl ?_⟩ ?_
                      focus (have hs := hS W hW; (try simp only [factsL, pickF, Det, and_true] at hf); (try simp only [putL, Act.put, List.setIfInBounds_toArray, List.set_cons_zero, List.set_cons_succ]); (try simp only [hf]); go_simp; refine hK.out _ _ (Below.refl _ _) ?_; unfold Det; rfl)
                      trivial
                    case hst2 => exact ⟨det_stays, OwnT.stays, det_stays, OwnT.stays, det_stays, IntsT.stays, det_stays, det_stays, det_stays, det_stays, det_stays, det_stays, trivial⟩
                    case hend2 =>
                      intro xs W hW hf
                      simp only [factsA, Det, noF, Nat.zero_add, Nat.reduceAdd, and_true, true_and] at hf
                      obtain ⟨f0, f1, f2, f3, f4, f5, f6, f7, f8, f9, f10, f11⟩ := hf
                      (simp only [putL, Act.put, upd, List.setIfInBounds_toArray, List.set_cons_zero, List.set_cons_succ])
                      simp only [f0, f2, f4, f6, f7, f8, f9, f10, f11]
                      refine gen_w (fun W' => Blk W' b3 #[.int .i64 kd, .slice A rows.length c, .int .i64 af] 25 ∧ Blk W' b7 #[.int .i64 cn, .int .i64 cd] 27 ∧ Blk W' b20 #[.int .i64 cn, .int .i64 cd] 27 ∧ Below w.heap.size w W') ⟨g.below hW hl3, g7.below hW hl7, g20.below hW hl20, bl2 hw hW⟩ ?_
                      clear g g7 g17 g20 hw hb hW hS f0 f1 f2 f3 f4 f5 f6 f7 f8 f9 f10 f11 hl3 hl7 hl17 hl20
                      rintro V9 ⟨g, g7, g20, hw⟩
                      have x0 := g7.cell 0; have x1 := g7.cell 1; have y0 := g20.cell 0; have y1 := g20.cell 1
                      simp at x0 x1 y0 y1
                      go_wp2_with fail
                      go_meet
                      exact ⟨g, hw⟩
                  --D>
                case rest =>
                  clear g g7 g17 hw hb HQ HCD HCM HOT HCK2
                  obtain ⟨g, hw⟩ := hcut
                  as_aux_lemma =>
                  (have z0 := g.cell 0; have z1 := g.cell 1; have z2 := g.cell 2; simp at z0 z1 z2)
                  have hpos : 0 < rows.length := by
                    obtain ⟨r0, t0, e0⟩ := HMO.out.rows0
                    have h9 : m.rows = rows.map LL.l := by rw [HM.out]; rfl
                    rw [h9] at e0
                    have := congrArg List.length e0
                    simp at this; omega
                  obtain ⟨ab, ao, hae, hblk, hcell, hsl⟩ := (HR.out.below hw).at_ hpos
                  rw [Nat.add_zero] at hcell
                  obtain ⟨N, hN⟩ : ∃ N, N = rows[0].l.length := ⟨_, rfl⟩
                  rw [← hN] at hcell
                  have hNo : m.outs = N := by rw [HM.out, outs_at2 _ _ _ _ _ hpos, hN]
                  have hRB := HRB.out
                  rw [hNo] at hRB
                  have hN1 : 1 ≤ N := by rw [← hNo]; exact HMO.out.n1
                  have hN32 : N ≤ 32 := by rw [← hNo]; exact HMO.out.n32
                  have hl60 := HL60.out
                  have hTA : ∀ (L : List Int) (n : Nat) W B q, L.length = n → n ≤ 60 → (∀ x ∈ L, 0 ≤ x ∧ x < (N : Int)) → Sl intCell 1 W W.heap.size B L → Calls Try.prog 25 #[.slice B n q, .int .i64 (N : Int)] W fun e w' => ∃ A9 B9, e = .returned (.tuple #[.slice (some ⟨A9, 0, none⟩) N N, .slice (some ⟨B9, 0, none⟩) (N * N) (N * N), .int .i64 0]) ∧ Arr w' A9 (cntL L N L.length) ∧ Below W.heap.size W w' := fun L n W B q h1 h2 h3 h4 => by
                    subst h1
                    have hz : tallyE L (N : Int) = 0 := by
                      unfold tallyE
                      rw [if_neg (by omega)]
                      unfold inE
                      rw [if_neg (by omega), if_neg]
                      rintro ⟨_, h⟩
                      obtain ⟨x, hx, h5⟩ := List.any_eq_true.1 h
                      have h6 := h3 x hx
                      have h7 : x < 0 ∨ (N : Int) ≤ x := by unfold outB at h5; exact of_decide_eq_true h5
                      omega
                    refine (tallyF_any B q L N W (by omega) h4).mono fun e w' h => ?_
                    unfold RetTally at h
                    rw [if_pos hz] at h
                    simp only [Int.toNat_natCast] at h
                    obtain ⟨A9, B9, e1, e2, _, _, _, e6⟩ := h
                    exact ⟨A9, B9, e1, e2, e6⟩
                  have HTP := Lib.hid (fun W B q (h : Sl intCell 1 W W.heap.size B l) => hTA l l.length W B q rfl hl60 hRB h)
                  have HTQ := Lib.hid (fun W B q (h : Sl intCell 1 W W.heap.size B (l.take k)) => hTA (l.take k) k W B q (by simp; omega) (by omega) (fun x hx => hRB x (List.mem_of_mem_take hx)) h)
                  have HTR := Lib.hid (fun W B q (h : Sl intCell 1 W W.heap.size B (l.drop k)) => hTA (l.drop k) (l.length - k) W B q (by simp) (by omega) (fun x hx => hRB x (List.mem_of_mem_drop hx)) h)
                  have HRB2 := Lib.hid hRB
                  have hs15 := HS15.out
                  have hsl5 := HSL5.out
                  have q0 : ((rows.length : Int) == 0) = false := beq_eq_false_iff_ne.2 (by omega)
                  have q0' : (0 : Int) < (rows.length : Int) := by omega
                  subst hae
                  clear hTA hRB hsl hN hNo g
                  go_upto_region 36 with (first | (go_at_call 15; (with_reducible refine (HIN.out _ hw).mono ?_); rintro _ w4 ⟨B, q, rfl, hs, -, -, -, hb4⟩; have hw := bl2 hw hb4) | (go_at_call 25; (with_reducible refine (HTP.out _ _ _ hs).mono ?_); rintro _ w5 ⟨a25, b25, rfl, ha25, hb5⟩; have hw := bl2 hw hb5; have HA25 := Lib.hid ha25; clear ha25 hs) | (go_at_call 15; (with_reducible refine (HIT.out _ hw).mono ?_); rintro _ w6 ⟨B, q, rfl, hs, hb6⟩; have hw := bl2 hw hb6; have HA25 := Lib.hid (Blk.below HA25.out hb6 (Blk.lt HA25.out))) | (go_at_call 25; (with_reducible refine (HTQ.out _ _ _ hs).mono ?_); rintro _ w7 ⟨a27, b27, rfl, ha27, hb7⟩; have hw := bl2 hw hb7; have HA25 := Lib.hid (Blk.below HA25.out hb7 (Blk.lt HA25.out)); have HA27 := Lib.hid ha27; clear ha27 hs) | (go_at_call 15; (with_reducible refine (HID.out _ hw).mono ?_); rintro _ w8 ⟨B, q, rfl, hs, -, hb8⟩; have hw := bl2 hw hb8; have HA25 := Lib.hid (Blk.below HA25.out hb8 (Blk.lt HA25.out)); have HA27 := Lib.hid (Blk.below HA27.out hb8 (Blk.lt HA27.out))) | (go_at_call 25; (with_reducible refine (HTR.out _ _ _ hs).mono ?_); rintro _ w9 ⟨a30, b30, rfl, ha30, hb9⟩; have hw := bl2 hw hb9; have HA25 := Lib.hid (Blk.below HA25.out hb9 (Blk.lt HA25.out)); have HA27 := Lib.hid (Blk.below HA27.out hb9 (Blk.lt HA27.out)); have HA30 := Lib.hid ha30; clear ha30 hs) | fail)
                  clear z0 z1 z2 hcell hblk hs15 hsl5 HTP HTQ HTR q0 q0'
                  refine gen_w (fun W => Hid (Arr W a25 (cntL l N l.length)) ∧ Hid (Arr W a27 (cntL (l.take k) N (l.take k).length)) ∧ Hid (Arr W a30 (cntL (l.drop k) N (l.drop k).length)) ∧ Below w.heap.size w W) ⟨HA25, HA27, HA30, hw⟩ ?_
                  clear HA25 HA27 HA30 hw hb4 hb5 hb6 hb7 hb8 hb9
                  rintro V9 ⟨HA25, HA27, HA30, hw⟩
                  go_wp2_with fail
                  go_loopw [33] (fun iv W => ∃ i : Nat, i ≤ N ∧ iv = .int .i64 (i : Int) ∧ Hid (Arr W a25 (cntL l N l.length)) ∧ Hid (Arr W a27 (cntL (l.take k) N (l.take k).length)) ∧ Hid (Arr W a30 (cntL (l.drop k) N (l.drop k).length)) ∧ Below w.heap.size w W) (fun iv _ => N - (intOf iv).toNat)
                  case atStart => exact ⟨0, by omega, rfl, HA25, HA27, HA30, hw⟩
                  case round =>
                    clear HA25 HA27 HA30 hw
                    obtain ⟨i, hi, rfl, HA25, HA27, HA30, hw⟩ := hrel
                    by_cases hlt : i < N
                    · have x1 := Arr.atD HA25.out (j := i) (by rw [cntL_len]; exact hlt)
                      have x2 := Arr.atD HA27.out (j := i) (by rw [cntL_len]; exact hlt)
                      have x3 := Arr.atD HA30.out (j := i) (by rw [cntL_len]; exact hlt)
                      have hsum := cnt_cut (at_ := k) HRB2.out hlt
                      have hbd2 := cnt_bd (l.take k) N (l.take k).length i
                      have hbd3 := cnt_bd (l.drop k) N (l.drop k).length i
                      have hlk : (l.take k).length ≤ 60 := by simp; omega
                      have hld : (l.drop k).length ≤ 60 := by simp; omega
                      have HA25' := HA25; have HA27' := HA27; have HA30' := HA30
                      obtain ⟨pv, hpv⟩ : ∃ v, v = (cntL l N l.length).getD i 0 := ⟨_, rfl⟩
                      obtain ⟨qv, hqv⟩ : ∃ v, v = (cntL (l.take k) N (l.take k).length).getD i 0 := ⟨_, rfl⟩
                      obtain ⟨rv, hrv⟩ : ∃ v, v = (cntL (l.drop k) N (l.drop k).length).getD i 0 := ⟨_, rfl⟩
                      rw [← hpv] at x1 hsum
                      rw [← hqv] at x2 hsum hbd2
                      rw [← hrv] at x3 hsum hbd3
                      have wsum : IntKind.i64.wrap (qv + rv) = pv := by rw [hsum]; exact IntWalk.i64_in _ ⟨by omega, by omega⟩
                      have i0 : (0 : Int) ≤ (i : Int) := by omega
                      have i1 : (i : Int) < (N : Int) := by omega
                      clear hpv hqv hrv hsum hbd2 hbd3 hlk hld
                      go_wp2
                      (refine wp_region_ext (by kernel_rfl) (by kernel_rfl) ?_; (repeat (go_big_quiet_step((fail)))); with_reducible refine wpQuiet_nil ?_; intro w1 hw1; have hb1 := ext_below hw1; clear hw1)
                      have HB25 := Lib.hid (Blk.below HA25.out hb1 (Blk.lt HA25.out))
                      have HB27 := Lib.hid (Blk.below HA27.out hb1 (Blk.lt HA27.out))
                      have HB30 := Lib.hid (Blk.below HA30.out hb1 (Blk.lt HA30.out))
                      have hw := bl2 hw hb1
                      go_wp2_with fail
                      refine ⟨⟨i + 1, by omega, by go_num, HB25, HB27, HB30, hw⟩, ?_⟩
                      simp [intOf]; omega
                    · obtain rfl : N = i := by omega
                      clear HA25 HA27 HA30
                      go_wp2_with (first | (go_at_call 12; refine (known_any _).mono ?_; rintro _ w9 ⟨rfl, hb9⟩; have hw := bl2 hw hb9) | fail)
                      go_ret
                      exact ⟨rfl, hw⟩
      · --D< b
        as_aux_lemma =>
        obtain rfl : d = (j : Int) := by omega
        have hjl : j < l.length := by omega
        obtain ⟨ib, io, rfl, hib, hic⟩ := HL.out.int_at hjl
        have hww : Below w.heap.size w wr := HWB.out.trans (HBK.out.hb.mono HZW.out)
        have hic := (hww.cell (p := ⟨ib, io + j, none⟩) hib).trans hic
        obtain ⟨xv, hxv⟩ : ∃ x, x = l[j] := ⟨_, rfl⟩
        rw [← hxv] at hic
        have HLX : Hid ((l.drop j).reverse = (l.drop (j + 1)).reverse ++ [xv]) := Lib.hid (by rw [List.drop_eq_getElem_cons hjl, List.reverse_cons, ← hxv])
        have hln : ((l.drop (j + 1)).reverse).length ≤ 60 := by simp; omega
        have hta : ∀ ad, tA = some ad → ad.block < wr.heap.size := HBK.out.tur.inW (by simp; omega)
        have HTA := Lib.hid hta
        have HLN2 := Lib.hid hln
        have hzz := HBK.out.hz
        have d0 : decide ((0 : Int) ≤ (j : Int)) = true := by simp
        have d1 : (j : Int) < (l.length : Int) := by omega
        clear hxv hww hta hd
        go_wp2_with (first | (at_builtin; go_loud (refine wpList_append_own_at _ rfl _ _ 30 rfl zb 3 i0' (.int .i64 0) 1 8 uInts hInf iz0 iz1 iz2 rfl (by decide) _ _ _ rfl (HBK.out.own.alloc _) ⟨wr.heap.size, 0, none⟩ 1 1 [.int .i64 xv] rfl rfl (cell_one_new _ _ _) (by simp [Value.oneCell']) (by unfold maxLen; omega) (by omega) (by simp; omega) ?_); intro v' w5 hown5 hgrow5 _ hat5; refine Hid.out ?_) | fail)
        have hal : Below wr.heap.size wr (wr.alloc (.cells #[.int .i64 xv] 3)) := (Below.refl _ _).alloc (Nat.le_refl _) _
        have HBK5 := Lib.hid ((HBK.out.below hal).app (fun ad e => Nat.lt_of_lt_of_le (HTA.out ad e) hal.size) hgrow5 hown5 hat5 HLX.out)
        clear hown5 hgrow5 hat5 hal hic hib
        refine Lib.hid ?_
        go_wp2_with fail
        refine ⟨⟨j, (j : Int) - 1, by omega, by go_num, by omega, HBK5⟩, ?_⟩
        simp [intOf]
        --D>
theorem lword_any (x : Md) (lA : Option Addr) (lc : Nat) (l : List Int) (cut : Int) (w : World) (hr : Lists w w.heap.size x.a x.rows) (hn : ∀ r ∈ x.rows, r.a = none → r.c = 0)
    (hl : Sl intCell 1 w w.heap.size lA l) (hlA : lA = none → lc = 0) (hlc : l.length ≤ lc) (hc0 : 0 ≤ cut) (hc1 : cut < 256) :
    Calls Try.prog 5 #[.agg #[.int .i64 x.kind, .slice x.a x.rows.length x.c, .int .i64 x.after], .slice lA l.length lc, .int .u8 cut] w fun e w' => e = .returned (.bool true) ∧ Below w.heap.size w w' := lword0_any x.kind x.a x.c x.rows x.after lA lc l cut w hr hn hl hlA hlc hc0 hc1
end Go.Proofs.Ytiikkcifdhcejaa

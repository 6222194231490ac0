/- The reference: Read. -/
import Derived.Test.YtidlmbajpbbilaaZ17RfD
namespace Go.Proofs.Ytidlmbajpbbilaa
open Go.RowKit

theorem wp_world2 {P : Program} {ops : Array Oper} {Q : Exit → Act → World → Prop} {l : List Oper} {a : Act} {w0 : World} (F : World → Prop) (h0 : F w0) (h : ∀ W, F W → wpList P ops Q l a W) : wpList P ops Q l a w0 := h w0 h0
abbrev rdS (s : Sch) (n : Nat) : Array Value := #[.int .i64 s.places, .int .i64 s.signs, .int .i64 s.kinds, .int .i64 s.answers, .slice s.ra n s.rc]
/-- what the first loop of Read finds -/
structure RdI (s : Sch) (kind : Int) (ch : List Int) (n : Nat) (w : World) (i : Nat) (v : Bool) (W : World) : Prop where
  low : Below w.heap.size w W
  sz : w.heap.size + 1 + 1 < W.heap.size
  k0 : Blk W w.heap.size (rdS s n) 24
  k1 : Blk W (w.heap.size + 1) #[.int .i64 0, .slice none 0 0, .slice none 0 0] 73
  k2 : Blk W (w.heap.size + 1 + 1) (spkA (spF s kind ch) n i v).toArray 4
theorem RdI.k2f {s : Sch} {kind : Int} {ch : List Int} {n : Nat} {w W : World} (h : RdI s kind ch n w n false W) : Blk W (w.heap.size + 1 + 1) (spkA (spF s kind ch) n n false).toArray 4 := h.k2
theorem RdI.below {s : Sch} {kind : Int} {ch : List Int} {n i : Nat} {w W W' : World} {v : Bool} (h : RdI s kind ch n w i v W) (hb : Below W.heap.size W W') : RdI s kind ch n w i v W' := by
  have hs := h.sz
  exact ⟨h.low.trans (hb.mono h.low.size), by have := hb.size; omega, h.k0.below hb (by omega), h.k1.below hb (by omega), h.k2.below hb (by omega)⟩
theorem RdI.set {s : Sch} {kind : Int} {ch : List Int} {n i : Nat} {w W : World} {v : Bool} (h : RdI s kind ch n w i v W) (v' : Bool) : RdI s kind ch n w i v' (W.setCell ⟨w.heap.size + 1 + 1, i, none⟩ (.bool v')) := by
  have hs := h.sz
  refine ⟨h.low.setCell (by first | omega | (simp; omega) | (simp; done)) _, by simpa using hs, h.k0.far _ (by simp; omega) _, h.k1.far _ (by simp) _, ?_⟩
  rw [← spkA_set (v := v)]
  exact h.k2.set i (.bool v')
abbrev RlB (W : World) (b : Nat) (r : Rul) : Prop := Blk W b #[.slice r.wa r.when_.length r.wc, .int .i64 r.kinds, .int .i64 r.rank, .slice r.ua r.unless_.length r.uc, .int .i64 r.says] 82
/-- the blocks behind the first loop: ob the reading, sb what has been said -/
structure RdK (s : Sch) (kind : Int) (ch : List Int) (n m : Nat) (w : World) (ob sb : Nat) (av rv : Value) (i : Nat) (W : World) : Prop where
  low : Below w.heap.size w W
  sz : sb < W.heap.size
  o1 : w.heap.size + 1 + 1 < ob
  o2 : ob < sb
  k0 : Blk W w.heap.size (rdS s n) 24
  k1 : Blk W (w.heap.size + 1) #[.int .i64 0, .slice none 0 0, .slice none 0 0] 73
  k2 : Blk W (w.heap.size + 1 + 1) (spkA (spF s kind ch) n n false).toArray 4
  ko : Blk W ob #[.int .i64 0, av, rv] 73
  ks : Blk W sb (saidA s kind ch m i).toArray 4
section
variable {s : Sch} {kind : Int} {ch : List Int} {n m : Nat} {w W W' : World} {ob sb : Nat} {av rv : Value} {i : Nat}
theorem RdK.below (h : RdK s kind ch n m w ob sb av rv i W) (hb : Below W.heap.size W W') : RdK s kind ch n m w ob sb av rv i W' := by
  have h1 := h.sz; have h2 := h.o1; have h3 := h.o2
  exact ⟨h.low.trans (hb.mono h.low.size), by have := hb.size; omega, h2, h3, h.k0.below hb (by omega), h.k1.below hb (by omega), h.k2.below hb (by omega), h.ko.below hb (by omega), h.ks.below hb (by omega)⟩
theorem RdK.grown (h : RdK s kind ch n m w ob sb av rv i W) {row : Option Nat} (hg : W.grownBy W' row) (hr : ∀ b, row = some b → w.heap.size + 1 + 1 < b ∧ b ≠ ob ∧ b ≠ sb) : RdK s kind ch n m w ob sb av rv i W' := by
  have h1 := h.sz; have h2 := h.o1; have h3 := h.o2
  have hs := hg.size
  refine ⟨h.low.grown hg h.low.size (fun b e => by have := (hr b e).1; omega), by omega, h2, h3, (hg.block _ (by omega) ?_).trans h.k0, (hg.block _ (by omega) ?_).trans h.k1, (hg.block _ (by omega) ?_).trans h.k2, (hg.block _ (by omega) ?_).trans h.ko, (hg.block _ (by omega) ?_).trans h.ks⟩ <;> (intro e; have := hr _ e.symm; omega)
theorem RdK.setR (h : RdK s kind ch n m w ob sb av rv i W) (v : Value) : RdK s kind ch n m w ob sb av v i (W.setCell ⟨ob, 2, none⟩ v) := by
  have h1 := h.sz; have h2 := h.o1; have h3 := h.o2
  exact ⟨h.low.setCell (by simp; omega) _, by simpa using h1, h2, h3, h.k0.far _ (by simp; omega) _, h.k1.far _ (by simp; omega) _, h.k2.far _ (by simp; omega) _, h.ko.set 2 v, h.ks.far _ (by simp; omega) _⟩
theorem RdK.setA (h : RdK s kind ch n m w ob sb av rv i W) (v : Value) : RdK s kind ch n m w ob sb v rv i (W.setCell ⟨ob, 1, none⟩ v) := by
  have h1 := h.sz; have h2 := h.o1; have h3 := h.o2
  exact ⟨h.low.setCell (by simp; omega) _, by simpa using h1, h2, h3, h.k0.far _ (by simp; omega) _, h.k1.far _ (by simp; omega) _, h.k2.far _ (by simp; omega) _, h.ko.set 1 v, h.ks.far _ (by simp; omega) _⟩
theorem RdK.setS (V : Valid s) (h : RdK s kind ch n m w ob sb av rv i W) (hi : i < s.rules.length) (hm : mainOf s 0 kind ch i = true) {y : Nat} (hy : sys s i = y) : RdK s kind ch n m w ob sb av rv (i + 1) (W.setCell ⟨sb, y, none⟩ (.bool true)) := by
  have h1 := h.sz; have h2 := h.o1; have h3 := h.o2
  refine ⟨h.low.setCell (by simp; omega) _, by simpa using h1, h2, h3, h.k0.far _ (by simp; omega) _, h.k1.far _ (by simp; omega) _, h.k2.far _ (by simp; omega) _, h.ko.far _ (by simp; omega) _, ?_⟩
  rw [← saidA_yes V hi hm hy]
  exact h.ks.set y _
end
theorem grownBy_setCellA (W : World) (p : Addr) (v : Value) : W.grownBy (W.setCell p v) (some p.block) :=
  ⟨rfl, rfl, rfl, by simp [World.setCell], fun k _ hk => Below.heap_setCell W p v k (fun e => hk (by rw [e]))⟩
/-- a list of the call's own, outside some blocks -/
structure OwnL (w : World) (ob sb : Nat) (v : Value) (l : List Int) (W : World) : Prop where
  own : W.ownsRow (w.heap.size + 1 + 1 + 1) 3 1 v l.length (l.map (Value.int .i64))
  nb : ∀ b, v.ownBlock = some b → b ≠ ob ∧ b ≠ sb
theorem OwnL.grown {w W W' : World} {ob sb : Nat} {v : Value} {l : List Int} (h : OwnL w ob sb v l W) {row : Option Nat} (hg : W.grownBy W' row) (hr : v.ownBlock = none ∨ v.ownBlock ≠ row) : OwnL w ob sb v l W' := ⟨h.own.kept hg hr, h.nb⟩
theorem OwnL.setCell {w W : World} {ob sb : Nat} {v : Value} {l : List Int} (h : OwnL w ob sb v l W) (p : Addr) (hp : p.block = ob ∨ p.block = sb) (u : Value) : OwnL w ob sb v l (W.setCell p u) := by
  refine h.grown (grownBy_setCellA W p u) ?_
  right
  intro e
  have := h.nb _ e
  omega
theorem ownL_form {w W : World} {ob sb : Nat} {v : Value} {l : List Int} (h : OwnL w ob sb v l W) : ∃ A c, v = .slice A l.length c := by
  have h1 := h.own
  rw [← flat_one] at h1
  obtain ⟨A, c, hv, _⟩ := Sl.of_own h1
  exact ⟨A, c, hv⟩
theorem OwnL.lt {w W : World} {ob sb : Nat} {v : Value} {l : List Int} (h : OwnL w ob sb v l W) : ∀ b, v.ownBlock = some b → w.heap.size + 1 + 1 < b ∧ b < W.heap.size := fun b hb => by
  have := h.own.lt b hb; omega
theorem OwnL.sl {w W : World} {ob sb L : Nat} {qa : Option Addr} {qc : Nat} {l : List Int} (h : OwnL w ob sb (.slice qa L qc) l W) : Sl intCell 1 W W.heap.size qa l := by
  have h1 := h.own
  rw [← flat_one] at h1
  obtain ⟨A, c, hv, hs⟩ := Sl.of_own h1
  cases hv
  exact hs
abbrev rdW (W : World) (b ob : Nat) (kd : Int) (a r : Value) : World :=
  (((W.setCell ⟨ob, 0, none⟩ (.int .i64 kd)).setCell ⟨b, 0, none⟩ (.int .i64 kd)).setCell ⟨b, 1, none⟩ a).setCell ⟨b, 2, none⟩ r
theorem rd_fin {s : Sch} {kind : Int} {ch : List Int} {n m : Nat} {w W : World} {ob sb i L M qc rc : Nat} {qa ra : Option Addr} {l1 l2 : List Int} (h : RdK s kind ch n m w ob sb (.slice qa L qc) (.slice ra M rc) i W) (hr : OwnL w ob sb (.slice ra M rc) l2 W) (ha : OwnL w ob sb (.slice qa L qc) l1 W) (kd : Int) :
    Blk (rdW W (w.heap.size + 1) ob kd (.slice qa L qc) (.slice ra M rc)) (w.heap.size + 1) #[.int .i64 kd, .slice qa L qc, .slice ra M rc] 73 ∧
    Sl intCell 1 (rdW W (w.heap.size + 1) ob kd (.slice qa L qc) (.slice ra M rc)) (rdW W (w.heap.size + 1) ob kd (.slice qa L qc) (.slice ra M rc)).heap.size qa l1 ∧
    Sl intCell 1 (rdW W (w.heap.size + 1) ob kd (.slice qa L qc) (.slice ra M rc)) (rdW W (w.heap.size + 1) ob kd (.slice qa L qc) (.slice ra M rc)).heap.size ra l2 ∧
    Below w.heap.size w (rdW W (w.heap.size + 1) ob kd (.slice qa L qc) (.slice ra M rc)) := by
  have h1 := h.o1; have h2 := h.o2; have h3 := h.sz
  have other : ∀ {v : Value} {l : List Int}, OwnL w ob sb v l W → OwnL w ob sb v l (rdW W (w.heap.size + 1) ob kd (.slice qa L qc) (.slice ra M rc)) := fun {v l} hv => by
    have hne : ∀ b, v.ownBlock = some b → b ≠ w.heap.size + 1 := fun b hb => by have := hv.lt b hb; omega
    have k : ∀ {X : World}, OwnL w ob sb v l X → ∀ (o : Nat) (u : Value), OwnL w ob sb v l (X.setCell ⟨w.heap.size + 1, o, none⟩ u) := fun hx o u =>
      hx.grown (grownBy_setCellA _ _ _) (.inr fun e => hne _ e rfl)
    exact k (k (k (hv.setCell _ (.inl rfl) _) _ _) _ _) _ _
  refine ⟨?_, (other ha).sl, (other hr).sl, (((h.low.setCell (by simp; omega) _).setCell (by first | omega | (simp; omega) | (simp; done)) _).setCell (by first | omega | (simp; omega) | (simp; done)) _).setCell (by first | omega | (simp; omega) | (simp; done)) _⟩
  exact (((h.k1.far ⟨ob, 0, none⟩ (by simp; omega) _).set 0 _).set 1 _).set 2 _
set_option maxRecDepth 100000 in
set_option maxHeartbeats 8000000 in
theorem rread_any (s : Sch) (V : Valid s) (V3 : ∀ r ∈ s.rules, ∀ t ∈ r.when_, TestFit3 s.places.toNat t) (ch : List Int) (kind : Int) (A : Option Addr) (c m : Nat) (w : World) (hr : s.reads w w.heap.size) (hk0 : 0 ≤ kind) (hk1 : kind < s.kinds)
    (hm : m = s.places.toNat) (hcl : ch.length = m) (hcb : ∀ x ∈ ch, 0 ≤ x ∧ x ≤ 63) (hA : Sl intCell 1 w w.heap.size A ch) :
    Calls Try.prog 44 #[scv s s.rv, .slice A m c, .int .i64 kind] w (RetR (readP s kind ch) w) := by
  obtain ⟨i0, hi, iz0, iz1, iz2⟩ := info_parts infoBool
  obtain ⟨i1, hi1, iy0, iy1, iy2⟩ := info_parts infoInt
  have HRR := Lib.hid hr; have HA := Lib.hid hA; have HCB := Lib.hid hcb; have HCL := Lib.hid hcl; have HV3 := Lib.hid V3; have HM := Lib.hid hm
  have hlen := V.len
  have hkk := V.kinds
  have hw1 : IntKind.u64.wrap kind = kind := IntWalk.u64_in _ ⟨by omega, by omega⟩
  obtain ⟨n, hn⟩ : ∃ n, n = s.rules.length := ⟨_, rfl⟩
  have HN := Lib.hid hn
  have hrv : s.rv = .slice s.ra n s.rc := by rw [hn]
  have hn30 : n ≤ 30 := by omega
  clear hr hA hcb hcl V3 hm hn
  go_enter Try.func44, Try.ntmps44
  go_wp2_with (at_make; refine wpList_make_blk _ rfl _ _ 97 rfl 4 i0 (.bool false) uBools hi iz0 iz1 rfl .i64 .i64 _ _ n rfl rfl rfl rfl (by rw [iz2]; omega) (by unfold maxLen; omega) ?_; intro W1 gS bS)
  refine Lib.hid ?_
  refine wp_world2 (fun W => RdI s kind ch n w 0 false W) ?_ ?_
  · refine ⟨((((Below.refl _ w).alloc (Nat.le_refl _) _).alloc (by simp) _).trans (bS.mono (by simp; omega))), by have := bS.size; have := gS.lt; simp at this; omega, (bS.block _ (by simp; omega)).trans ((Blk.at_ rfl).alloc _), (bS.block _ (by simp)).trans (Blk.at_ (by simp)), ?_⟩
    rw [spkA_zero] at gS
    simpa using gS
  clear gS bS
  rintro W0 h0
  have c4 := h0.k0.cell 4
  simp at c4
  go_wp2
  clear c4
  go_loopw [8, 9] (fun t i wr => ∃ j : Nat, j ≤ n ∧ i = .int .i64 j ∧ t = .int .i64 (topR s (spF s kind ch) j) ∧ Hid (RdI s kind ch n w j false wr) ∧ w.heap.size + 1 + 1 < wr.heap.size) (fun _ i _ => n - (intOf i).toNat)
  case atStart => exact ⟨0, by omega, rfl, rfl, h0, h0.sz⟩
  case round =>
    obtain ⟨j, hj, rfl, rfl, hI, hz⟩ := hrel
    have c4 := hI.out.k0.cell 4
    simp at c4
    by_cases hlt : j < n
    · have hlt2 : j < s.rules.length := by rw [← HN.out]; exact hlt
      have hrr := HRR.out.below hI.out.low
      obtain ⟨ab, ao, hra, hblk, hcell⟩ := hrr.1.at_ (k := j) (fun _ => rfl) hlt2
      rw [hra] at c4
      have hrl := (hrr.2.2 _ (List.getElem_mem hlt2)).more hI.out.low.size
      have hrw := HRR.out.2.2 _ (List.getElem_mem hlt2)
      have hok := V.rule j hlt2
      have HSP := Lib.hid (spF_eq V kind ch hlt2)
      have HRK := Lib.hid (rnk_get hlt2)
      have hv3 := HV3.out _ (List.getElem_mem hlt2)
      obtain ⟨r, hre⟩ : ∃ t, s.rules[j] = t := ⟨_, rfl⟩
      rw [hre] at hcell HSP hrl hok HRK hv3 hrw
      have r0 : wr.cell? ⟨ab, ao + j * 5, none⟩ = some (.slice r.wa r.when_.length r.wc) := hcell 0 _ rfl
      have r1 : wr.cell? ⟨ab, ao + j * 5 + 1, none⟩ = some (.int .i64 r.kinds) := hcell 1 _ rfl
      have r2 : wr.cell? ⟨ab, ao + j * 5 + 2, none⟩ = some (.int .i64 r.rank) := hcell 2 _ rfl
      have r3 : wr.cell? ⟨ab, ao + j * 5 + 3, none⟩ = some (.slice r.ua r.unless_.length r.uc) := hcell 3 _ rfl
      have r4 : wr.cell? ⟨ab, ao + j * 5 + 4, none⟩ = some (.int .i64 r.says) := hcell 4 _ rfl
      have hk16 : r.kinds < 16 := by
        have h1 := hok.kinds.2
        have h2 : (2 : Int) ^ s.kinds.toNat ≤ 2 ^ 4 := by
          have := Nat.pow_le_pow_right (n := 2) (by omega) (show s.kinds.toNat ≤ 4 by omega)
          exact_mod_cast this
        omega
      have hkb := i64_is1 r kind hok.kinds.1 hk16
      obtain ⟨hw1', hw2', hl1, hl2, _⟩ := hrl
      have HHO := fun W (hW : Below wr.heap.size wr W) => Lib.hid (HCL.out ▸ rholds_any r.wa A r.wc c ch r.when_ W ch.length rfl hl1 (by rw [HCL.out, HM.out]; exact hv3) HCB.out ((hw1'.below hW).more hW.size) ((HA.out.below (hI.out.low.trans (hW.mono hI.out.low.size))).more (Nat.le_trans hI.out.low.size hW.size)))
      have HU := Lib.hid hrw.2.1
      have HUB := Lib.hid hok.unl
      have hrk := hok.rank
      have HI := Lib.hid hI
      have k2 := hI.out.k2.cell j
      rw [spkA_get hlt, if_pos rfl] at k2
      have f2 := hI.out.k2.free j
      have hk0' := hok.kinds.1
      clear hcell hre hra hrr hok hw1' hw2' hI hv3 hrw
      by_cases hkt : kbit r kind = true
      · rw [hkt] at hkb
        obtain ⟨v0, hv0⟩ : ∃ v, v = holdsB ch r.when_ := ⟨_, rfl⟩
        rw [← hv0] at HHO
        have HSP2 : Hid (spF s kind ch j = (v0 && !(r.unless_.any fun u => spF s kind ch u.toNat))) := (by rw [HSP.out, hkt, hv0]; rfl : spF s kind ch j = (v0 && !(r.unless_.any fun u => spF s kind ch u.toNat)))
        clear hkt HSP hv0
        go_wp2_with fail
        refine ((HHO _ (by (repeat (first | exact Below.refl _ _ | assumption | (refine Below.alloc ?_ (by first | omega | (simp; omega) | (simp; done)) _) | (refine Below.setCell ?_ (by first | omega | (simp; omega) | (simp; done)) _) | (refine Below.drew ?_) | (refine belowN ?_ _) | (refine Below.trans ?_ (Below.mono ‹Below _ _ _› (by first | omega | (simp; omega) | (simp; done)))))))).out).mono ?_
        rintro e w1 ⟨rfl, hb1⟩
        have hb2 : Below wr.heap.size wr w1 := ((Below.refl _ _).alloc (Nat.le_refl _) _).trans (hb1.mono (by simp))
        have HR1 : Hid (RlB w1 wr.heap.size r) := ((hb1.block _ (by simp)).trans (Blk.at_ rfl) : RlB w1 wr.heap.size r)
        have HI1 := Lib.hid (HI.out.below hb2)
        have hz1 : wr.heap.size < w1.heap.size := by have := hb1.size; simp at this; omega
        have k3 := HI1.out.k2.cell j
        rw [spkA_get hlt, if_pos rfl] at k3
        have f3 := HI1.out.k2.free j
        clear hb1 hb2
        go_wp2
        refine wp_world (fun W => RdI s kind ch n w j v0 W ∧ RlB W wr.heap.size r ∧ wr.heap.size < W.heap.size) ⟨HI1.out.set v0, HR1.out.far _ (by simp; omega) _, by simpa using hz1⟩ ?_
        clear r0 r1 r2 r3 r4 c4 k2 f2 HI HHO hkb
        rintro W2 ⟨hI2, hR2, hz2⟩
        obtain ⟨wo, rfl⟩ : ∃ wo : World, wo = wr := ⟨_, rfl⟩
        go_loopw [11] (fun i wq => ∃ k : Nat, k ≤ r.unless_.length ∧ i = .int .i64 k ∧ Hid (RdI s kind ch n w j (v0 && !((r.unless_.take k).any fun u => spF s kind ch u.toNat)) wq) ∧ Hid (RlB wq wo.heap.size r) ∧ wo.heap.size < wq.heap.size) (fun i _ => r.unless_.length - (intOf i).toNat)
        case atStart => exact ⟨0, by omega, rfl, Lib.hid (by simpa using hI2), hR2, hz2⟩
        case round =>
          obtain ⟨k, hk, rfl, hIq, hRq, hzq⟩ := hrel
          have q3 := hRq.out.cell 3
          simp at q3
          by_cases hlk : k < r.unless_.length
          · have HAT := Lib.hid (any_take_succ (p := fun u => spF s kind ch u.toNat) hlk)
            have hub := HUB.out _ (List.getElem_mem hlk)
            obtain ⟨ub, uo, hua, hubl, hcell⟩ := Sl.at_ (Sl.below HU.out hIq.out.low) (k := k) (fun _ => rfl) hlk
            rw [hua] at q3
            obtain ⟨u, hu⟩ : ∃ t, r.unless_[k] = t := ⟨_, rfl⟩
            rw [hu] at hcell hub HAT
            obtain ⟨hu0, hu1⟩ := hub
            obtain ⟨y, rfl⟩ := Int.eq_ofNat_of_zero_le hu0
            rw [Int.toNat_natCast] at HAT
            have cu : wr.cell? ⟨ub, uo + k, none⟩ = some (.int .i64 (y : Int)) := by have := hcell 0 _ rfl; simpa using this
            have hyj : y < j := by omega
            have k2 := hIq.out.k2.cell y
            rw [spkA_get (by omega), if_neg (by omega)] at k2
            have hdy : decide (y < j) = true := by simpa using hyj
            rw [hdy, Bool.true_and] at k2
            have kj := hIq.out.k2.cell j
            rw [spkA_get hlt, if_pos rfl] at kj
            have fj := hIq.out.k2.free j
            have hyn : (y : Int) < (n : Int) := by omega
            have hjn : (j : Int) < (n : Int) := by omega
            obtain ⟨fy, hfy⟩ : ∃ b, b = spF s kind ch y := ⟨_, rfl⟩
            rw [← hfy] at k2 HAT
            obtain ⟨ta, hta⟩ : ∃ b : Bool, b = ((r.unless_.take k).any fun u => spF s kind ch u.toNat) := ⟨_, rfl⟩
            rw [← hta] at HAT hIq kj
            clear hcell hu hua hfy hta hdy
            cases fy
            · have HAT2 : Hid (((r.unless_.take (k + 1)).any fun u => spF s kind ch u.toNat) = ta) := (by rw [HAT.out]; simp : ((r.unless_.take (k + 1)).any fun u => spF s kind ch u.toNat) = ta)
              go_wp2
              go_roundw
              case rel => exact ⟨k + 1, by omega, by go_num, by rw [HAT2.out]; exact hIq, hRq, hzq⟩
              case measure => simp [intOf]; omega
            · have HAT2 : Hid (((r.unless_.take (k + 1)).any fun u => spF s kind ch u.toNat) = true) := (by rw [HAT.out]; simp : ((r.unless_.take (k + 1)).any fun u => spF s kind ch u.toNat) = true)
              go_wp2
              go_roundw
              case rel => exact ⟨k + 1, by omega, by go_num, by rw [HAT2.out, Bool.not_true, Bool.and_false]; exact hIq.out.set false, hRq.out.far _ (by simp; omega) _, by simpa using hzq⟩
              case measure => simp [intOf]; omega
          · obtain rfl : k = r.unless_.length := by omega
            rw [List.take_length, ← HSP2.out] at hIq
            have kj := hIq.out.k2.cell j
            rw [spkA_get hlt, if_pos rfl] at kj
            have HI3 : Hid (RdI s kind ch n w (j + 1) false wr) := (⟨hIq.out.low, hIq.out.sz, hIq.out.k0, hIq.out.k1, by rw [← spkA_next]; exact hIq.out.k2⟩ : RdI s kind ch n w (j + 1) false wr)
            have q2 := hRq.out.cell 2
            simp at q2
            have hz3 := hIq.out.sz
            have hjn : (j : Int) < (n : Int) := by omega
            have HTR : Hid (topR s (spF s kind ch) (j + 1) = if spF s kind ch j && decide (topR s (spF s kind ch) j < r.rank) then r.rank else topR s (spF s kind ch) j) := (by rw [← HRK.out]; rfl : topR s (spF s kind ch) (j + 1) = _)
            obtain ⟨fj, hfj⟩ : ∃ b, b = spF s kind ch j := ⟨_, rfl⟩
            obtain ⟨T, hT⟩ : ∃ b, b = topR s (spF s kind ch) j := ⟨_, rfl⟩
            rw [← hfj, ← hT] at HTR
            rw [← hfj] at kj hIq
            rw [← hT]
            clear hfj hT hIq
            cases fj
            · have HTR2 : Hid (topR s (spF s kind ch) (j + 1) = T) := (by rw [HTR.out]; rfl : topR s (spF s kind ch) (j + 1) = T)
              go_wp2
              go_roundw
              case rel => exact ⟨j + 1, by omega, by go_num, by rw [HTR2.out], HI3, hz3⟩
              case measure => simp [intOf]; omega
            · by_cases hlr : T < r.rank
              · have HTR2 : Hid (topR s (spF s kind ch) (j + 1) = r.rank) := (by rw [HTR.out]; simp [hlr] : topR s (spF s kind ch) (j + 1) = r.rank)
                go_wp2
                go_roundw
                case rel => exact ⟨j + 1, by omega, by go_num, by rw [HTR2.out], HI3, hz3⟩
                case measure => simp [intOf]; omega
              · have HTR2 : Hid (topR s (spF s kind ch) (j + 1) = T) := (by rw [HTR.out]; simp [hlr] : topR s (spF s kind ch) (j + 1) = T)
                go_wp2
                go_roundw
                case rel => exact ⟨j + 1, by omega, by go_num, by rw [HTR2.out], HI3, hz3⟩
                case measure => simp [intOf]; omega
      · simp only [Bool.not_eq_true] at hkt
        rw [hkt] at hkb
        obtain ⟨v0, hv0⟩ : ∃ v : Bool, v = false := ⟨_, rfl⟩
        have HSP2 : Hid (spF s kind ch j = (v0 && !(r.unless_.any fun u => spF s kind ch u.toNat))) := (by rw [HSP.out, hkt, hv0]; rfl : spF s kind ch j = (v0 && !(r.unless_.any fun u => spF s kind ch u.toNat)))
        have HV0 := Lib.hid hv0
        clear hkt HSP hv0
        go_wp2
        refine wp_world (fun W => RdI s kind ch n w j v0 W ∧ RlB W wr.heap.size r ∧ wr.heap.size < W.heap.size) ⟨by rw [HV0.out]; exact (HI.out.set false).below ((Below.refl _ _).alloc (Nat.le_refl _) _), Blk.at_ (by simp), by simp⟩ ?_
        clear r0 r1 r2 r3 r4 c4 k2 f2 HI HHO hkb
        rintro W2 ⟨hI2, hR2, hz2⟩
        obtain ⟨wo, rfl⟩ : ∃ wo : World, wo = wr := ⟨_, rfl⟩
        go_loopw [11] (fun i wq => ∃ k : Nat, k ≤ r.unless_.length ∧ i = .int .i64 k ∧ Hid (RdI s kind ch n w j (v0 && !((r.unless_.take k).any fun u => spF s kind ch u.toNat)) wq) ∧ Hid (RlB wq wo.heap.size r) ∧ wo.heap.size < wq.heap.size) (fun i _ => r.unless_.length - (intOf i).toNat)
        case atStart => exact ⟨0, by omega, rfl, Lib.hid (by simpa using hI2), hR2, hz2⟩
        case round =>
          obtain ⟨k, hk, rfl, hIq, hRq, hzq⟩ := hrel
          have q3 := hRq.out.cell 3
          simp at q3
          by_cases hlk : k < r.unless_.length
          · have HAT := Lib.hid (any_take_succ (p := fun u => spF s kind ch u.toNat) hlk)
            have hub := HUB.out _ (List.getElem_mem hlk)
            obtain ⟨ub, uo, hua, hubl, hcell⟩ := Sl.at_ (Sl.below HU.out hIq.out.low) (k := k) (fun _ => rfl) hlk
            rw [hua] at q3
            obtain ⟨u, hu⟩ : ∃ t, r.unless_[k] = t := ⟨_, rfl⟩
            rw [hu] at hcell hub HAT
            obtain ⟨hu0, hu1⟩ := hub
            obtain ⟨y, rfl⟩ := Int.eq_ofNat_of_zero_le hu0
            rw [Int.toNat_natCast] at HAT
            have cu : wr.cell? ⟨ub, uo + k, none⟩ = some (.int .i64 (y : Int)) := by have := hcell 0 _ rfl; simpa using this
            have hyj : y < j := by omega
            have k2 := hIq.out.k2.cell y
            rw [spkA_get (by omega), if_neg (by omega)] at k2
            have hdy : decide (y < j) = true := by simpa using hyj
            rw [hdy, Bool.true_and] at k2
            have kj := hIq.out.k2.cell j
            rw [spkA_get hlt, if_pos rfl] at kj
            have fj := hIq.out.k2.free j
            have hyn : (y : Int) < (n : Int) := by omega
            have hjn : (j : Int) < (n : Int) := by omega
            obtain ⟨fy, hfy⟩ : ∃ b, b = spF s kind ch y := ⟨_, rfl⟩
            rw [← hfy] at k2 HAT
            obtain ⟨ta, hta⟩ : ∃ b : Bool, b = ((r.unless_.take k).any fun u => spF s kind ch u.toNat) := ⟨_, rfl⟩
            rw [← hta] at HAT hIq kj
            clear hcell hu hua hfy hta hdy
            cases fy
            · have HAT2 : Hid (((r.unless_.take (k + 1)).any fun u => spF s kind ch u.toNat) = ta) := (by rw [HAT.out]; simp : ((r.unless_.take (k + 1)).any fun u => spF s kind ch u.toNat) = ta)
              go_wp2
              go_roundw
              case rel => exact ⟨k + 1, by omega, by go_num, by rw [HAT2.out]; exact hIq, hRq, hzq⟩
              case measure => simp [intOf]; omega
            · have HAT2 : Hid (((r.unless_.take (k + 1)).any fun u => spF s kind ch u.toNat) = true) := (by rw [HAT.out]; simp : ((r.unless_.take (k + 1)).any fun u => spF s kind ch u.toNat) = true)
              go_wp2
              go_roundw
              case rel => exact ⟨k + 1, by omega, by go_num, by rw [HAT2.out, Bool.not_true, Bool.and_false]; exact hIq.out.set false, hRq.out.far _ (by simp; omega) _, by simpa using hzq⟩
              case measure => simp [intOf]; omega
          · obtain rfl : k = r.unless_.length := by omega
            rw [List.take_length, ← HSP2.out] at hIq
            have kj := hIq.out.k2.cell j
            rw [spkA_get hlt, if_pos rfl] at kj
            have HI3 : Hid (RdI s kind ch n w (j + 1) false wr) := (⟨hIq.out.low, hIq.out.sz, hIq.out.k0, hIq.out.k1, by rw [← spkA_next]; exact hIq.out.k2⟩ : RdI s kind ch n w (j + 1) false wr)
            have q2 := hRq.out.cell 2
            simp at q2
            have hz3 := hIq.out.sz
            have hjn : (j : Int) < (n : Int) := by omega
            have HTR : Hid (topR s (spF s kind ch) (j + 1) = if spF s kind ch j && decide (topR s (spF s kind ch) j < r.rank) then r.rank else topR s (spF s kind ch) j) := (by rw [← HRK.out]; rfl : topR s (spF s kind ch) (j + 1) = _)
            obtain ⟨fj, hfj⟩ : ∃ b, b = spF s kind ch j := ⟨_, rfl⟩
            obtain ⟨T, hT⟩ : ∃ b, b = topR s (spF s kind ch) j := ⟨_, rfl⟩
            rw [← hfj, ← hT] at HTR
            rw [← hfj] at kj hIq
            rw [← hT]
            clear hfj hT hIq
            cases fj
            · have HTR2 : Hid (topR s (spF s kind ch) (j + 1) = T) := (by rw [HTR.out]; rfl : topR s (spF s kind ch) (j + 1) = T)
              go_wp2
              go_roundw
              case rel => exact ⟨j + 1, by omega, by go_num, by rw [HTR2.out], HI3, hz3⟩
              case measure => simp [intOf]; omega
            · by_cases hlr : T < r.rank
              · have HTR2 : Hid (topR s (spF s kind ch) (j + 1) = r.rank) := (by rw [HTR.out]; simp [hlr] : topR s (spF s kind ch) (j + 1) = r.rank)
                go_wp2
                go_roundw
                case rel => exact ⟨j + 1, by omega, by go_num, by rw [HTR2.out], HI3, hz3⟩
                case measure => simp [intOf]; omega
              · have HTR2 : Hid (topR s (spF s kind ch) (j + 1) = T) := (by rw [HTR.out]; simp [hlr] : topR s (spF s kind ch) (j + 1) = T)
                go_wp2
                go_roundw
                case rel => exact ⟨j + 1, by omega, by go_num, by rw [HTR2.out], HI3, hz3⟩
                case measure => simp [intOf]; omega
    · obtain rfl : j = n := by omega
      have HK : Hid (mainN s 0 kind ch = mainN s 0 kind ch) := rfl
      obtain ⟨m2, hm2⟩ := Int.eq_ofNat_of_zero_le (a := s.answers) (by have := V.answers; omega)
      have HM2 := Lib.hid hm2
      have c3 := hI.out.k0.cell 3
      simp at c3
      have m20 : m2 ≤ 20 := by have := V.answers; omega
      have hI2 := hI.out
      have hww : w.heap.size < wr.heap.size := by omega
      have hww1 : w.heap.size < wr.heap.size + 1 := by omega
      have hww2 : w.heap.size < wr.heap.size + 1 + 1 := by omega
      clear hm2 h0
      go_wp2_with (at_make; refine wpList_make_blk _ rfl _ _ 97 rfl 4 i0 (.bool false) uBools hi iz0 iz1 rfl .i64 .i64 _ _ m2 rfl rfl HM2.out HM2.out (by rw [iz2]; omega) (by unfold maxLen; omega) ?_; intro W3 gT bT)
      refine Lib.hid ?_
      obtain ⟨ob, hob⟩ : ∃ b, b = wr.heap.size + 1 + 1 := ⟨_, rfl⟩
      obtain ⟨sb, hsb⟩ : ∃ b, b = wr.heap.size + 1 + 1 + 1 := ⟨_, rfl⟩
      obtain ⟨av0, hav0⟩ : ∃ v, v = Value.slice (some ⟨wr.heap.size, 0, none⟩) 0 0 := ⟨_, rfl⟩
      obtain ⟨rv0, hrv0⟩ : ∃ v, v = Value.slice (some ⟨wr.heap.size + 1, 0, none⟩) 0 0 := ⟨_, rfl⟩
      have hbel : Below wr.heap.size wr W3 := ((((Below.refl wr.heap.size wr).alloc (Nat.le_refl _) _).alloc (by simp) _).alloc (by simp; omega) _).trans (bT.mono (by simp; omega))
      have HK3 : Hid (RdK s kind ch j m2 w ob sb av0 rv0 0 W3) := (by
        have hb := hI2.below hbel
        refine ⟨hb.low, by have := gT.lt; simp at this; omega, by omega, by omega, hb.k0, hb.k1, hb.k2f, ?_, ?_⟩
        · rw [hav0, hrv0, hob]; exact (bT.block _ (by simp)).trans (Blk.at_ (by simp))
        · rw [← saidA_zero, hsb]; simpa using gT : RdK s kind ch j m2 w ob sb av0 rv0 0 W3)
      have HR0 : Hid (OwnL w ob sb rv0 [] W3) := (by
        refine ⟨⟨by simp, .inr ⟨wr.heap.size + 1, 0, #[], hrv0, by omega, (bT.block _ (by simp)).trans ((Blk.at_ (by simp)).alloc _), by simp, by simp, by simp, by simp⟩⟩, fun b hb => ?_⟩
        rw [hrv0] at hb; simp [Value.ownBlock] at hb; omega : OwnL w ob sb rv0 [] W3)
      have HA0 : Hid (OwnL w ob sb av0 [] W3) := (by
        refine ⟨⟨by simp, .inr ⟨wr.heap.size, 0, #[], hav0, by omega, (bT.block _ (by simp; omega)).trans (((Blk.at_ rfl).alloc _).alloc _), by simp, by simp, by simp, by simp⟩⟩, fun b hb => ?_⟩
        rw [hav0] at hb; simp [Value.ownBlock] at hb; omega : OwnL w ob sb av0 [] W3)
      have HNE : Hid (rv0.ownBlock ≠ av0.ownBlock) := (by rw [hrv0, hav0]; simp [Value.ownBlock] : rv0.ownBlock ≠ av0.ownBlock)
      go_wp2
      rw [← hsb, ← hob]
      have hzo : w.heap.size + 1 + 1 < ob := by omega
      have hzs : ob < sb := by omega
      have hz30 := HK3.out.sz
      clear gT bT hbel hob hsb hav0 hrv0 c3 c4 hI2 hww hww1 hww2 hI HK
      go_loopw [14] (fun i wq => ∃ (k : Nat) (rv : Value), k ≤ j ∧ i = .int .i64 k ∧ Hid (RdK s kind ch j m2 w ob sb av0 rv k wq) ∧ Hid (OwnL w ob sb rv (heardL s kind ch k) wq) ∧ Hid (OwnL w ob sb av0 [] wq) ∧ Hid (rv.ownBlock ≠ av0.ownBlock) ∧ sb < wq.heap.size) (fun i _ => j - (intOf i).toNat)
      case atStart => exact ⟨0, rv0, by omega, rfl, HK3, HR0, HA0, HNE, hz30⟩
      case round =>
        obtain ⟨k, rv, hk, rfl, HKq, HRq, HAq, HNq, hzq⟩ := hrel
        have c4 := HKq.out.k0.cell 4
        simp at c4
        by_cases hlt : k < j
        · have hlt2 : k < s.rules.length := by rw [← HN.out]; exact hlt
          have hrr := HRR.out.below HKq.out.low
          obtain ⟨ab, ao, hra, hblk, hcell⟩ := hrr.1.at_ (k := k) (fun _ => rfl) hlt2
          rw [hra] at c4
          have HRK := Lib.hid (rnk_get hlt2)
          have hsy := (V.rule k hlt2).says
          have HSY : Hid (sys s k = s.rules[k].says.toNat) := (by simp [sys, List.getElem?_eq_getElem hlt2] : sys s k = s.rules[k].says.toNat)
          obtain ⟨r, hre⟩ : ∃ t, s.rules[k] = t := ⟨_, rfl⟩
          rw [hre] at hcell HRK hsy HSY
          have r2 : wr.cell? ⟨ab, ao + k * 5 + 2, none⟩ = some (.int .i64 r.rank) := hcell 2 _ rfl
          have k2 := HKq.out.k2.cell k
          rw [spkA_get hlt, if_neg (by omega)] at k2
          have hdk : decide (k < j) = true := by simpa using hlt
          rw [hdk, Bool.true_and] at k2
          have hkj : (k : Int) < (j : Int) := by omega
          have hk0' : (0 : Int) ≤ (k : Int) := by omega
          have HMO := Lib.hid (mainOf_eq s kind ch k)
          obtain ⟨fk, hfk⟩ : ∃ b, b = spF s kind ch k := ⟨_, rfl⟩
          have HTT : Hid (topR s (spF s kind ch) s.rules.length = topR s (spF s kind ch) j) := (by rw [← HN.out] : topR s (spF s kind ch) s.rules.length = topR s (spF s kind ch) j)
          obtain ⟨T, hT⟩ : ∃ b, b = topR s (spF s kind ch) j := ⟨_, rfl⟩
          rw [← hT] at HTT
          rw [← hfk] at HMO k2
          rw [HTT.out, HRK.out] at HMO
          rw [← hT]
          have hcell4 : ∀ W', Below w.heap.size w W' → W'.cell? ⟨ab, ao + k * 5 + 4, none⟩ = some (.int .i64 r.says) := fun W' hW' => by
            have h1 : wr.cell? ⟨ab, ao + k * 5 + 4, none⟩ = some (.int .i64 r.says) := hcell 4 _ rfl
            rw [(bcell HKq.out.low).1 _ _ hblk] at h1
            rw [(bcell hW').1 _ _ hblk]; exact h1
          have HC4 := Lib.hid hcell4
          have HRA := Lib.hid hra
          clear hcell hre hra hrr hfk hT hdk hcell4
          have HSU := Lib.hid (heardL_succ s kind ch k)
          cases fk
          · have HMF : Hid (mainOf s 0 kind ch k = false) := (by rw [HMO.out]; rfl : mainOf s 0 kind ch k = false)
            rw [HMF.out] at HSU
            have HK' : Hid (RdK s kind ch j m2 w ob sb av0 rv (k + 1) wr) := (by have h := HKq.out; exact ⟨h.low, h.sz, h.o1, h.o2, h.k0, h.k1, h.k2, h.ko, by rw [saidA_no V hlt2 HMF.out]; exact h.ks⟩ : RdK s kind ch j m2 w ob sb av0 rv (k + 1) wr)
            go_wp2
            go_roundw
            case rel => exact ⟨k + 1, rv, by omega, by go_num, HK', by rw [HSU.out]; simpa using HRq, HAq, HNq, hzq⟩
            case measure => simp [intOf]; omega
          · by_cases hrt : (r.rank == T) = true
            · have HMF : Hid (mainOf s 0 kind ch k = true) := (by rw [HMO.out, hrt]; rfl : mainOf s 0 kind ch k = true)
              rw [HMF.out, if_pos rfl] at HSU
              have hl30 := heardL_len s kind ch k
              have o2 := HKq.out.ko.cell 2
              simp at o2
              have hob : ob < wr.heap.size := by omega
              obtain ⟨y, hy⟩ := Int.eq_ofNat_of_zero_le hsy.1
              have hy2 : y < m2 := by have := HM2.out; omega
              rw [hy] at HC4
              have HSY2 : Hid (sys s k = y) := (by rw [HSY.out, hy]; rfl : sys s k = y)
              have HW0 := HKq.out.low.size
              clear hsy
              go_wp2_with (at_builtin; refine wpList_append_own_at _ rfl _ _ 28 rfl (w.heap.size + 1 + 1 + 1) 3 i1 (.int .i64 0) 1 8 uInts hi1 iy0 iy1 iy2 rfl (by decide) _ _ _ rfl (HRq.out.own.alloc _) ⟨wr.heap.size, 0, none⟩ 1 1 [.int .i64 (k : Int)] rfl rfl (cell_one_new _ _ _) (by simp [Value.oneCell']) (by unfold maxLen; omega) (by omega) (by simp; omega) ?_; intro v' w1 hown1 hgrow _ hat; refine Hid.out ?_)
              have hlv := HRq.out.lt
              have HK1 := Lib.hid ((HKq.out.below ((Below.refl wr.heap.size wr).alloc (Nat.le_refl _) _)).grown hgrow (fun b hb => ⟨(HRq.out.lt b hb).1, (HRq.out.nb b hb).1, (HRq.out.nb b hb).2⟩))
              have hz1 : sb < w1.heap.size := HK1.out.sz
              have HO1 : Hid (OwnL w ob sb v' (heardL s kind ch (k + 1)) w1) := (by
                refine ⟨by rw [HSU.out]; simpa using hown1, fun b hb => ?_⟩
                rcases hat with h | h
                · rw [h] at hb; exact HRq.out.nb b hb
                · rw [h] at hb; simp at hb; omega : OwnL w ob sb v' (heardL s kind ch (k + 1)) w1)
              have HNE1 : Hid (v'.ownBlock ≠ (av0).ownBlock) := (by
                rcases hat with h | h
                · rw [h]; exact HNq.out
                · rw [h]; intro e; have := HAq.out.lt _ e.symm; simp at this; omega : v'.ownBlock ≠ (av0).ownBlock)
              have HA1 := Lib.hid ((HAq.out.grown (World.grownBy_alloc wr (.cells #[.int .i64 (k : Int)] 3) none) (by cases hv : (av0).ownBlock <;> simp)).grown hgrow (.inr (fun e => HNq.out e.symm)))
              obtain ⟨qa, qc, hqv⟩ := ownL_form HO1.out
              subst hqv
              clear hown1 hgrow hat hlv
              have o2' := HK1.out.ko.cell 2
              have g2 := HK1.out.ko.free 2
              have ty := HK1.out.ks.cell y
              rw [saidA_get hy2] at ty
              have gy := HK1.out.ks.free y
              have r4 := HC4.out w1 HK1.out.low
              have c4' := HK1.out.k0.cell 4
              simp at o2' c4'
              have c4'' : w1.cell? ⟨w.heap.size, 4, none⟩ = some (.slice (some ⟨ab, ao, none⟩) j s.rc) := by rw [c4', HRA.out]
              have hym : (y : Int) < (m2 : Int) := by omega
              clear c4'
              have hy0 : (0 : Int) ≤ (y : Int) := by omega
              refine Lib.hid ?_
              go_wp2
              go_roundw
              case rel => exact ⟨k + 1, _, by omega, by go_num, (HK1.out.setR _).setS V hlt2 HMF.out HSY2.out, (HO1.out.setCell _ (.inl rfl) _).setCell _ (.inr rfl) _, (HA1.out.setCell _ (.inl rfl) _).setCell _ (.inr rfl) _, HNE1, by simpa using hz1⟩
              case measure => simp [intOf]; omega
            · simp only [Bool.not_eq_true] at hrt
              have HMF : Hid (mainOf s 0 kind ch k = false) := (by rw [HMO.out, hrt]; rfl : mainOf s 0 kind ch k = false)
              rw [HMF.out] at HSU
              have HK' : Hid (RdK s kind ch j m2 w ob sb av0 rv (k + 1) wr) := (by have h := HKq.out; exact ⟨h.low, h.sz, h.o1, h.o2, h.k0, h.k1, h.k2, h.ko, by rw [saidA_no V hlt2 HMF.out]; exact h.ks⟩ : RdK s kind ch j m2 w ob sb av0 rv (k + 1) wr)
              go_wp2
              go_roundw
              case rel => exact ⟨k + 1, rv, by omega, by go_num, HK', by rw [HSU.out]; simpa using HRq, HAq, HNq, hzq⟩
              case measure => simp [intOf]; omega
        · obtain rfl : k = j := by omega
          go_wp2
          obtain ⟨wo, rfl⟩ : ∃ wo : World, wo = wr := ⟨_, rfl⟩
          have HNQ2 : Hid (av0.ownBlock ≠ rv.ownBlock) := (fun e => HNq.out e.symm : av0.ownBlock ≠ rv.ownBlock)
          have HAT : ∀ a, saidTo s (mainN s 0 kind ch) k a = ansOf s 0 kind ch a := fun a => by rw [HN.out]; rfl
          have HAN := Lib.hid HAT
          clear c4 HAT
          go_loopw [15] (fun i wq => ∃ (a : Nat) (av : Value), a ≤ m2 ∧ i = .int .i64 a ∧ Hid (RdK s kind ch k m2 w ob sb av rv k wq) ∧ Hid (OwnL w ob sb rv (heardL s kind ch k) wq) ∧ Hid (OwnL w ob sb av (answL s kind ch a) wq) ∧ Hid (av.ownBlock ≠ rv.ownBlock) ∧ sb < wq.heap.size) (fun i _ => m2 - (intOf i).toNat)
          case atStart => exact ⟨0, av0, by omega, rfl, HKq, HRq, HAq, HNQ2, hzq⟩
          case round =>
            obtain ⟨a, av, ha, rfl, HKq, HRq, HAq, HNq, hzq⟩ := hrel
            have c3 := HKq.out.k0.cell 3
            simp at c3
            rw [HM2.out] at c3
            by_cases hlt : a < m2
            · have ta := HKq.out.ks.cell a
              rw [saidA_get hlt, HAN.out] at ta
              have ham : (a : Int) < (m2 : Int) := by omega
              have ha0 : (0 : Int) ≤ (a : Int) := by omega
              have HSU := Lib.hid (answL_succ s kind ch a)
              obtain ⟨fa, hfa⟩ : ∃ b, b = ansOf s 0 kind ch a := ⟨_, rfl⟩
              rw [← hfa] at ta HSU
              clear hfa
              cases fa
              · go_wp2
                go_roundw
                case rel => exact ⟨a + 1, av, by omega, by go_num, HKq, HRq, by rw [HSU.out]; simpa using HAq, HNq, hzq⟩
                case measure => simp [intOf]; omega
              · rw [if_pos rfl] at HSU
                have hl20 := answL_len s kind ch a
                have o1 := HKq.out.ko.cell 1
                simp at o1
                have hob : ob < wr.heap.size := by omega
                have HW0 := HKq.out.low.size
                go_wp2_with (at_builtin; refine wpList_append_own_at _ rfl _ _ 28 rfl (w.heap.size + 1 + 1 + 1) 3 i1 (.int .i64 0) 1 8 uInts hi1 iy0 iy1 iy2 rfl (by decide) _ _ _ rfl (HAq.out.own.alloc _) ⟨wr.heap.size, 0, none⟩ 1 1 [.int .i64 (a : Int)] rfl rfl (cell_one_new _ _ _) (by simp [Value.oneCell']) (by unfold maxLen; omega) (by omega) (by simp; omega) ?_; intro v' w1 hown1 hgrow _ hat; refine Hid.out ?_)
                have hlv := HAq.out.lt
                have HK1 := Lib.hid ((HKq.out.below ((Below.refl wr.heap.size wr).alloc (Nat.le_refl _) _)).grown hgrow (fun b hb => ⟨(HAq.out.lt b hb).1, (HAq.out.nb b hb).1, (HAq.out.nb b hb).2⟩))
                have hz1 : sb < w1.heap.size := HK1.out.sz
                have HO1 : Hid (OwnL w ob sb v' (answL s kind ch (a + 1)) w1) := (by
                  refine ⟨by rw [HSU.out]; simpa using hown1, fun b hb => ?_⟩
                  rcases hat with h | h
                  · rw [h] at hb; exact HAq.out.nb b hb
                  · rw [h] at hb; simp at hb; omega : OwnL w ob sb v' (answL s kind ch (a + 1)) w1)
                have HNE1 : Hid (v'.ownBlock ≠ (rv).ownBlock) := (by
                  rcases hat with h | h
                  · rw [h]; exact HNq.out
                  · rw [h]; intro e; have := HRq.out.lt _ e.symm; simp at this; omega : v'.ownBlock ≠ (rv).ownBlock)
                have HA1 := Lib.hid ((HRq.out.grown (World.grownBy_alloc wr (.cells #[.int .i64 (a : Int)] 3) none) (by cases hv : (rv).ownBlock <;> simp)).grown hgrow (.inr (fun e => HNq.out e.symm)))
                obtain ⟨qa, qc, hqv⟩ := ownL_form HO1.out
                subst hqv
                clear hown1 hgrow hat hlv
                have o1' := HK1.out.ko.cell 1
                have g1 := HK1.out.ko.free 1
                have c3' := HK1.out.k0.cell 3
                simp at o1' c3'
                rw [HM2.out] at c3'
                refine Lib.hid ?_
                go_wp2
                go_roundw
                case rel => exact ⟨a + 1, _, by omega, by go_num, HK1.out.setA _, HA1.out.setCell _ (.inl rfl) _, HO1.out.setCell _ (.inl rfl) _, HNE1, by simpa using hz1⟩
                case measure => simp [intOf]; omega
            · obtain rfl : a = m2 := by omega
              obtain ⟨qa, qc, hqv⟩ := ownL_form HAq.out
              obtain ⟨ra, rc, hrv'⟩ := ownL_form HRq.out
              subst hqv hrv'
              have HAL : Hid (answL s kind ch a = bitsOf (ansN s 0 kind ch)) := (by rw [show a = s.answers.toNat by have := HM2.out; omega, answL_eq V, bitsOf_ans] : answL s kind ch a = bitsOf (ansN s 0 kind ch))
              have HHL : Hid (heardL s kind ch k = bitsOf (mainN s 0 kind ch)) := (by rw [bitsOf_main V, HN.out] : heardL s kind ch k = bitsOf (mainN s 0 kind ch))
              have HKD : Hid (kindOf ((List.range 20).filter (ansOf s 0 kind ch)) = if (answL s kind ch a).length = 0 then 2 else if (answL s kind ch a).length = 1 then 1 else 3) := (by rw [show a = s.answers.toNat by have := HM2.out; omega, answL_eq V, List.length_map]; rfl : kindOf ((List.range 20).filter (ansOf s 0 kind ch)) = _)
              have o0 := HKq.out.ko.cell 0; have o1 := HKq.out.ko.cell 1; have o2 := HKq.out.ko.cell 2
              have g0 := HKq.out.ko.free 0
              have z0 := HKq.out.k1.cell 0; have z1 := HKq.out.k1.cell 1; have z2 := HKq.out.k1.cell 2
              have y0 := HKq.out.k1.free 0; have y1 := HKq.out.k1.free 1; have y2 := HKq.out.k1.free 2
              simp at o0 o1 o2 z0 z1 z2
              have hal := answL_len s kind ch a
              obtain ⟨L, hL⟩ : ∃ x, x = (answL s kind ch a).length := ⟨_, rfl⟩
              rw [← hL] at HKD o1 hal HKq HAq
              have HLL := Lib.hid hL
              clear hL
              by_cases hL0 : L = 0
              · subst hL0
                have HK2 : Hid (kindOf ((List.range 20).filter (ansOf s 0 kind ch)) = 2) := (HKD.out : kindOf ((List.range 20).filter (ansOf s 0 kind ch)) = 2)
                go_wp2
                obtain ⟨f1, f2, f3, f4⟩ := rd_fin HKq.out HRq.out HAq.out 2
                show bodyPost _ _ _ _ _ (rdW wr (w.heap.size + 1) ob 2 (.slice qa 0 qc) (.slice ra (heardL s kind ch k).length rc))
                revert f1 f2 f3 f4
                generalize rdW wr (w.heap.size + 1) ob 2 (.slice qa 0 qc) (.slice ra (heardL s kind ch k).length rc) = Wf
                intro f1 f2 f3 f4
                have e0 := f1.cell 0; have e1 := f1.cell 1; have e2 := f1.cell 2
                simp at e0 e1 e2
                refine bodyPost_ret (v := .agg #[.int .i64 2, .slice qa 0 qc, .slice ra (heardL s kind ch k).length rc]) (by simp [results, Try.results44, go_sem, e0, e1, e2]) rfl ?_
                exact ⟨qa, qc, ra, rc, by simp only [readP]; rw [HK2.out, ← HAL.out, ← HHL.out, ← HLL.out], by simp only [readP]; rw [← HAL.out]; exact f2, by simp only [readP]; rw [← HHL.out]; exact f3, f4⟩
              · by_cases hL1 : L = 1
                · subst hL1
                  have HK2 : Hid (kindOf ((List.range 20).filter (ansOf s 0 kind ch)) = 1) := (HKD.out : kindOf ((List.range 20).filter (ansOf s 0 kind ch)) = 1)
                  go_wp2
                  obtain ⟨f1, f2, f3, f4⟩ := rd_fin HKq.out HRq.out HAq.out 1
                  show bodyPost _ _ _ _ _ (rdW wr (w.heap.size + 1) ob 1 (.slice qa 1 qc) (.slice ra (heardL s kind ch k).length rc))
                  revert f1 f2 f3 f4
                  generalize rdW wr (w.heap.size + 1) ob 1 (.slice qa 1 qc) (.slice ra (heardL s kind ch k).length rc) = Wf
                  intro f1 f2 f3 f4
                  have e0 := f1.cell 0; have e1 := f1.cell 1; have e2 := f1.cell 2
                  simp at e0 e1 e2
                  refine bodyPost_ret (v := .agg #[.int .i64 1, .slice qa 1 qc, .slice ra (heardL s kind ch k).length rc]) (by simp [results, Try.results44, go_sem, e0, e1, e2]) rfl ?_
                  exact ⟨qa, qc, ra, rc, by simp only [readP]; rw [HK2.out, ← HAL.out, ← HHL.out, ← HLL.out], by simp only [readP]; rw [← HAL.out]; exact f2, by simp only [readP]; rw [← HHL.out]; exact f3, f4⟩
                · have HK2 : Hid (kindOf ((List.range 20).filter (ansOf s 0 kind ch)) = 3) := (by rw [HKD.out, if_neg hL0, if_neg hL1] : kindOf ((List.range 20).filter (ansOf s 0 kind ch)) = 3)
                  have e0 : ((L : Int) == 0) = false := by simp; omega
                  have e1 : ((L : Int) == 1) = false := by simp; omega
                  clear hL0 hL1
                  go_wp2
                  obtain ⟨f1, f2, f3, f4⟩ := rd_fin HKq.out HRq.out HAq.out 3
                  show bodyPost _ _ _ _ _ (rdW wr (w.heap.size + 1) ob 3 (.slice qa L qc) (.slice ra (heardL s kind ch k).length rc))
                  revert f1 f2 f3 f4
                  generalize rdW wr (w.heap.size + 1) ob 3 (.slice qa L qc) (.slice ra (heardL s kind ch k).length rc) = Wf
                  intro f1 f2 f3 f4
                  have e0 := f1.cell 0; have e1 := f1.cell 1; have e2 := f1.cell 2
                  simp at e0 e1 e2
                  refine bodyPost_ret (v := .agg #[.int .i64 3, .slice qa L qc, .slice ra (heardL s kind ch k).length rc]) (by simp [results, Try.results44, go_sem, e0, e1, e2]) rfl ?_
                  exact ⟨qa, qc, ra, rc, by simp only [readP]; rw [HK2.out, ← HAL.out, ← HHL.out, ← HLL.out], by simp only [readP]; rw [← HAL.out]; exact f2, by simp only [readP]; rw [← HHL.out]; exact f3, f4⟩
end Go.Proofs.Ytidlmbajpbbilaa

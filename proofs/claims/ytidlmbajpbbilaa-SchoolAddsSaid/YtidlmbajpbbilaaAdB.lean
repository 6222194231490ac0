/- The law SchoolAdds: the walk. -/
import Derived.Test.YtidlmbajpbbilaaAdC
import Derived.Test.YtidlmbajpbbilaaLwA
import Derived.Test.YtidlmbajpbbilaaScQN
import Derived.Deep.RegionHeld
import Derived.Deep.DeepCutAuto
namespace Go.Proofs.Ytidlmbajpbbilaa
open Go.RowKit

theorem count_cong {s s' : Sch} (h : s'.pl = s.pl) (kind : Int) (sets : List Int) : countR s' kind sets = countR s kind sets := by rw [← countR_pl s', h, countR_pl]
theorem cn_any {s s' : Sch} {kind : Int} {sets : List Int} {A' : Option Addr} (c' : Nat) {r : Int × Int × Int × List Int × Int} {Wo Ws : World} (hpl : s'.pl = s.pl) (hr : s'.reads Wo Wo.heap.size) (hos : Below Wo.heap.size Wo Ws) (hA : Sl setCell1 1 Ws Ws.heap.size A' sets)
    (hl : sets.length ≤ 1000000) (ho : ∀ x ∈ sets, IsU64 x) (hcr : countR s kind sets = r) : ∀ W, Below Ws.heap.size Ws W → Calls Try.prog 16 #[scv s' s'.rv, .int .i64 kind, .slice A' sets.length c'] W (RetCountN r W) := fun W hW => by
  have h := count_new s' kind sets A' c' W ((hr.below (bl2 hos hW)).more (bl2 hos hW).size) hl ho ((hA.below hW).more hW.size)
  rw [count_cong hpl, hcr] at h; exact h
theorem sl_put4 {W : World} {A : Option Addr} {l : List Int} {b z : Nat} (h : Sl intCell 1 W W.heap.size A l) (hz : ∀ p, A = some p → z ≤ p.block) (hb : b < z) (v0 v1 v2 v3 : Value) :
    Sl intCell 1 ((((W.setCell ⟨b, 0, none⟩ v0).setCell ⟨b, 1, none⟩ v1).setCell ⟨b, 2, none⟩ v2).setCell ⟨b, 3, none⟩ v3) ((((W.setCell ⟨b, 0, none⟩ v0).setCell ⟨b, 1, none⟩ v1).setCell ⟨b, 2, none⟩ v2).setCell ⟨b, 3, none⟩ v3).heap.size A l := by
  have hz' : SlZ intCell 1 z W A l := ⟨h, hz⟩
  exact (hz'.keep (W' := (((W.setCell ⟨b, 0, none⟩ v0).setCell ⟨b, 1, none⟩ v1).setCell ⟨b, 2, none⟩ v2).setCell ⟨b, 3, none⟩ v3) (fun p h1 h2 => by
    have hne : b ≠ p.block := by omega
    rw [World.cell?_setCell_far _ _ _ _ hne, World.cell?_setCell_far _ _ _ _ hne, World.cell?_setCell_far _ _ _ _ hne, World.cell?_setCell_far _ _ _ _ hne]) (by simp)).1
theorem own_blk {W : World} {b e n : Nat} {v : Value} {xs : List Value} (h : W.ownsRow b e 1 v n xs) (hn : 0 < n) : ∃ g cap cur, v = .slice (some ⟨g, 0, none⟩) n cap ∧ b ≤ g ∧ Blk W g cur e ∧ cur.toList.take n = xs := by
  rcases h.2 with ⟨_, h0⟩ | ⟨g, cap, cur, hv, hb, hg, _, _, _, ht⟩
  · omega
  · exact ⟨g, cap, cur, hv, hb, hg, by simpa using ht⟩
theorem sl_row {W : World} {g t n : Nat} {cur : Array Value} {l : List Int} (h : Blk W g cur t) (_hl : l.length = n) (ht : cur.toList.take n = flat setCell1 l) : Sl setCell1 1 W W.heap.size (some ⟨g, 0, none⟩) l := by
  refine ⟨flat_length _ 1 (fun _ => rfl) l, fun _ => ⟨g, 0, rfl, h.lt, fun j u hu => ?_⟩⟩
  rw [h.cell, Nat.zero_add]
  rw [← ht, List.getElem?_take] at hu
  split at hu
  · rw [← Array.getElem?_toList]; exact hu
  · cases hu
theorem row_set {cur : Array Value} {n : Nat} {x y : Int} {r : List Int} (ht : cur.toList.take n = flat setCell1 (x :: r)) : (cur.setIfInBounds 0 (.int .u64 y)).toList.take n = flat setCell1 (y :: r) := by
  have e1 : flat setCell1 (x :: r) = .int .u64 x :: flat setCell1 r := rfl
  have e2 : flat setCell1 (y :: r) = .int .u64 y :: flat setCell1 r := rfl
  rw [e1] at ht
  rw [e2, Array.toList_setIfInBounds]
  cases hl : cur.toList with
  | nil => rw [hl] at ht; simp at ht
  | cons z l =>
    rw [hl] at ht
    cases n with
    | zero => simp at ht
    | succ n =>
      simp only [List.take_succ_cons, List.cons.injEq] at ht
      simp only [List.set_cons_zero, List.take_succ_cons, ht.2]
theorem row_head {cur : Array Value} {n : Nat} {x : Int} {r : List Int} (ht : cur.toList.take n = flat setCell1 (x :: r)) : cur[0]? = some (.int .u64 x) := by
  rw [← Array.getElem?_toList]
  cases hl : cur.toList with
  | nil => rw [hl] at ht; simp [flat] at ht
  | cons z l =>
    rw [hl] at ht
    cases n with
    | zero => simp [flat] at ht
    | succ n =>
      simp only [List.take_succ_cons, flat, List.flatMap_cons, List.cons_append, List.nil_append, List.cons.injEq] at ht
      simp [ht.1]
theorem clms_lit {W : World} {b : Nat} {kind : Int} {A : Option Addr} {c : Nat} {sets : List Int} {tt cc : Bool} (hb : Blk W b #[.int .i64 kind, .slice A sets.length c, .bool tt, .bool cc] 43) (hq : Sl setCell1 1 W W.heap.size A sets) (hl : sets.length ≤ 1000000) (ho : ∀ x ∈ sets, IsU64 x) :
    ClmsRead W W.heap.size (some ⟨b, 0, none⟩) [⟨kind, A, c, sets, tt, cc⟩] := by
  refine ⟨⟨rfl, fun _ => ⟨b, 0, rfl, hb.lt, fun j u hu => ?_⟩⟩, by simp, fun q hq' => ?_⟩
  · rw [hb.cell, Nat.zero_add]; simpa [flat] using hu
  · obtain rfl : q = _ := by simpa using hq'
    exact ⟨hq, hl, ho⟩
theorem kl_any {s s' : Sch} {kind : Int} {sets : List Int} {tt cc : Bool} {A' : Option Addr} (c' : Nat) {x1 x2 er : Int} {Wo Ws : World} (hpl : s'.pl = s.pl) (hr : s'.reads Wo Wo.heap.size) (hos : Below Wo.heap.size Wo Ws) (hA : Sl setCell1 1 Ws Ws.heap.size A' sets) (hl : sets.length ≤ 1000000) (ho : ∀ x ∈ sets, IsU64 x)
    (hcr : ∀ A c, keepsR s [⟨kind, A, c, sets, tt, cc⟩] = (x1, x2, er)) :
    Calls Try.prog 23 #[scv s' s'.rv, .slice (some ⟨Ws.heap.size, 0, none⟩) 1 1] (Ws.alloc (.cells #[.int .i64 kind, .slice A' sets.length c', .bool tt, .bool cc] 43)) fun e w' => e = .returned (.tuple #[.int .i64 x1, .int .i64 x2, .int .i64 er]) ∧ Below (Ws.alloc (.cells #[.int .i64 kind, .slice A' sets.length c', .bool tt, .bool cc] 43)).heap.size (Ws.alloc (.cells #[.int .i64 kind, .slice A' sets.length c', .bool tt, .bool cc] 43)) w' := by
  have h := keeps_any s' [⟨kind, A', c', sets, tt, cc⟩] (some ⟨Ws.heap.size, 0, none⟩) 1 _ ((hr.below (bla hos)).more (bla hos).size) (clms_lit (Blk.new Ws _ _) (sl_al hA (Below.refl _ _)) hl ho)
  rw [keeps_cong hpl rfl, hcr] at h; exact h
theorem cn2_any {s s' : Sch} {kind : Int} {l : List Int} {A' : Option Addr} (c' : Nat) {n : Nat} {r : Int × Int × Int × List Int × Int} {Wo W : World} (hpl : s'.pl = s.pl) (hr : s'.reads Wo Wo.heap.size) (hW : Below Wo.heap.size Wo W) (hA : Sl setCell1 1 W W.heap.size A' l)
    (hn : l.length = n) (hl : n ≤ 1000000) (ho : ∀ x ∈ l, IsU64 x) (hcr : countR s kind l = r) : Calls Try.prog 16 #[scv s' s'.rv, .int .i64 kind, .slice A' n c'] W (RetCountN r W) := by
  subst hn
  exact cn_any c' hpl hr hW hA hl ho hcr W (Below.refl _ _)
/-- behind a statement that keeps a census: what was there is there, the census lies in block b, its list is readable -/
def CenF (W1 : World) (b : Nat) (v0 v1 v2 : Int) (A : Option Addr) (c : Nat) (L : List Int) (wx : World) : Prop :=
  Below W1.heap.size W1 wx ∧ Blk wx b #[.int .i64 v0, .int .i64 v1, .int .i64 v2, .slice A L.length c] 30 ∧ Sl intCell 1 wx wx.heap.size A L ∧ W1.heap.size ≤ b
theorem cen_new {W1 Wk : World} {v0 v1 v2 : Int} {A : Option Addr} {c : Nat} {L : List Int} (h : Below W1.heap.size W1 Wk) (hA : Sl intCell 1 Wk Wk.heap.size A L) :
    CenF W1 Wk.heap.size v0 v1 v2 A c L (Wk.alloc (.cells #[.int .i64 v0, .int .i64 v1, .int .i64 v2, .slice A L.length c] 30)) :=
  ⟨bla h, Blk.new _ _ _, sl_al hA (Below.refl _ _), h.size⟩
theorem cen_put {W1 Wk : World} {bz z : Nat} {u0 u1 u2 u3 : Value} {v0 v1 v2 : Int} {A : Option Addr} {c : Nat} {L : List Int} (h : Below W1.heap.size W1 Wk) (hA : Sl intCell 1 Wk Wk.heap.size A L) (hz : ∀ p, A = some p → z ≤ p.block) (hb : bz < z) (h1 : W1.heap.size ≤ bz)
    (gz : Blk Wk bz #[u0, u1, u2, u3] 30) : CenF W1 bz v0 v1 v2 A c L ((((Wk.setCell ⟨bz, 0, none⟩ (.int .i64 v0)).setCell ⟨bz, 1, none⟩ (.int .i64 v1)).setCell ⟨bz, 2, none⟩ (.int .i64 v2)).setCell ⟨bz, 3, none⟩ (.slice A L.length c)) :=
  ⟨(((h.setCell h1 _).setCell h1 _).setCell h1 _).setCell h1 _, (((gz.set 0 _).set 1 _).set 2 _).set 3 _, sl_put4 hA hz hb _ _ _ _, h1⟩
set_option maxRecDepth 100000 in
set_option maxHeartbeats 100000000 in
theorem lwadds_ok (s : Sch) (kind : Int) (A : Option Addr) (c : Nat) (sets : List Int) (tt cc : Bool) (part : Int) (w : World) (HRR : Hid (s.wreads w w.heap.size)) (HN0 : Hid s.nil0) (HAA : Hid (Sl setCell1 1 w w.heap.size A sets)) (HO : Hid (∀ x ∈ sets, IsU64 x)) (hn : A = none → c = 0) (hp : IsU64 part)
    (hg : largeB s 600 = false) (h10 : sets.length ≤ 10) :
    Calls Try.prog 6 #[scv s s.rv, .agg #[.int .i64 kind, .slice A sets.length c, .bool tt, .bool cc], .int .u64 part] w fun e w' => e = .returned (.bool true) ∧ Below w.heap.size w w' := by
  obtain ⟨hlen, hall, -⟩ := not_large hg
  have d1 : decide (10 < (sets.length : Int)) = false := by simp; omega
  have d1' : decide (10 < sets.length) = false := by simp; omega
  have hrd := reads_of_weak HRR.out hlen hall
  obtain ⟨a0, a1, a2, L, er, hcr⟩ : ∃ a b c d e, countR s kind sets = (a, b, c, d, e) := ⟨_, _, _, _, _, rfl⟩
  have HCR := Lib.hid hcr; have HR := Lib.hid hrd; have HN := Lib.hid hn; have HP := Lib.hid hp
  clear hcr hrd hall hn hp
  go_enter Try.func6, Try.ntmps6
  go_wp2_with (go_at_call 14; refine (large_any s 600 _ ((HRR.out.below (by (repeat (first | exact Below.refl _ _ | assumption | (refine Below.alloc ?_ (by first | omega | (simp; omega) | (simp; done)) _) | (refine Below.setCell ?_ (by first | omega | (simp; omega) | (simp; done)) _) | (refine Below.drew ?_) | (refine belowN ?_ _) | (refine Below.trans ?_ (Below.mono ‹Below _ _ _› (by first | omega | (simp; omega) | (simp; done)))))))).more (by simp; omega))).mono ?_; rintro _ W1 ⟨rfl, hbx⟩; rw [hg]; have hw1 := bl2 (bla (bla (Below.refl _ _))) hbx; have g1 : Blk W1 w.heap.size #[.int .i64 s.places, .int .i64 s.signs, .int .i64 s.kinds, .int .i64 s.answers, s.rv] 24 := ((Blk.at_ rfl).alloc _).below hbx (by first | omega | (simp; omega) | (simp; done)); have g2 : Blk W1 (w.heap.size + 1) #[.int .i64 kind, .slice A sets.length c, .bool tt, .bool cc] 43 := (Blk.at_ (by simp)).below hbx (by first | omega | (simp; omega) | (simp; done)); (have s0 := g1.cell 0; have s1 := g1.cell 1; have s2 := g1.cell 2; have s3 := g1.cell 3; have s4 := g1.cell 4; have t0 := g2.cell 0; have t1 := g2.cell 1; have t2 := g2.cell 2; have t3 := g2.cell 3; simp at s0 s1 s2 s3 s4 t0 t1 t2 t3))
  have HOWN := Lib.hid (fun W (hW : Below w.heap.size w W) => own_any s W ((HR.out.below hW).more hW.size) HN0.out (by omega))
  have HSE := Lib.hid (fun W (hW : Below w.heap.size w W) => lsets_any A c sets W (by omega) HN.out (oneCell_sets _) ((HAA.out.below hW).more hW.size))
  clear hbx d1 d1'
  go_cut [7, 8] (fun s7 s8 wx => ∃ (ob : Nat) (CA : Option Addr) (c1 : Nat), s7 = .pointer (some ⟨ob, 0, none⟩) ∧ s8 = .int .i64 er ∧ CenF W1 ob a0 a1 a2 CA c1 L wx)
  case first =>
    --D<
    as_aux_lemma =>
      have g1b := g1; have g2b := g2; have lt2 := g2.lt
      have nz0 : W1.heap.size ≠ w.heap.size ∧ W1.heap.size ≠ w.heap.size + 1 := ⟨by omega, by omega⟩
      go_region_held (fun W' => W'.cell? ⟨w.heap.size, 0, none⟩ = some (.int .i64 s.places) ∧ W'.cell? ⟨w.heap.size, 1, none⟩ = some (.int .i64 s.signs) ∧ W'.cell? ⟨w.heap.size, 2, none⟩ = some (.int .i64 s.kinds) ∧ W'.cell? ⟨w.heap.size, 3, none⟩ = some (.int .i64 s.answers) ∧ W'.cell? ⟨w.heap.size, 4, none⟩ = some s.rv ∧ W'.cell? ⟨w.heap.size + 1, 0, none⟩ = some (.int .i64 kind) ∧ W'.cell? ⟨w.heap.size + 1, 1, none⟩ = some (.slice A sets.length c)) (first | exact ⟨s0, s1, s2, s3, s4, t0, t1⟩ | go_keep)
        (first | (go_at_call 17; refine (HOWN.out _ (bl2 hw1 (by (repeat (first | exact Below.refl _ _ | assumption | (refine Below.alloc ?_ (by first | omega | (simp; omega) | (simp; done)) _) | (refine Below.setCell ?_ (by first | omega | (simp; omega) | (simp; done)) _) | (refine Below.drew ?_) | (refine belowN ?_ _) | (refine Below.trans ?_ (Below.mono ‹Below _ _ _› (by first | omega | (simp; omega) | (simp; done))))))))).mono ?_; rintro _ Wo ⟨s', rfl, hpl, hr', -, hbq⟩; have HPL := Lib.hid hpl; have HR' := Lib.hid hr'; clear hpl hr'; have hxo : Below W1.heap.size W1 Wo := Below.trans (by (repeat (first | exact Below.refl _ _ | assumption | (refine Below.alloc ?_ (by first | omega | (simp; omega) | (simp; done)) _) | (refine Below.setCell ?_ (by first | omega | (simp; omega) | (simp; done)) _) | (refine Below.drew ?_) | (refine belowN ?_ _) | (refine Below.trans ?_ (Below.mono ‹Below _ _ _› (by first | omega | (simp; omega) | (simp; done))))))) (hbq.mono (by simp)); have g1 := g1b.below hxo g1b.lt; have g2 := g2b.below hxo g2b.lt; (have s0 := g1.cell 0; have s1 := g1.cell 1; have s2 := g1.cell 2; have s3 := g1.cell 3; have s4 := g1.cell 4; have t0 := g2.cell 0; have t1 := g2.cell 1; have t2 := g2.cell 2; have t3 := g2.cell 3; simp at s0 s1 s2 s3 s4 t0 t1 t2 t3); have nz1 : Wo.heap.size ≠ w.heap.size ∧ Wo.heap.size ≠ w.heap.size + 1 := (by have := hxo.size; omega); (first | (have gz : Blk Wo W1.heap.size _ _ := (Blk.new W1.drew _ _).below hbq (by simp)) | skip)) |
          (go_at_call 18; refine (HSE.out _ (bl2 hw1 (bl2 hxo (by (repeat (first | exact Below.refl _ _ | assumption | (refine Below.alloc ?_ (by first | omega | (simp; omega) | (simp; done)) _) | (refine Below.setCell ?_ (by first | omega | (simp; omega) | (simp; done)) _) | (refine Below.drew ?_) | (refine belowN ?_ _) | (refine Below.trans ?_ (Below.mono ‹Below _ _ _› (by first | omega | (simp; omega) | (simp; done)))))))))).mono ?_; rintro _ Ws ⟨v, rfl, hown, hbq⟩; obtain ⟨A', c', rfl, hA'⟩ := Sl.of_own hown; have hos : Below Wo.heap.size Wo Ws := Below.trans (by (repeat (first | exact Below.refl _ _ | assumption | (refine Below.alloc ?_ (by first | omega | (simp; omega) | (simp; done)) _) | (refine Below.setCell ?_ (by first | omega | (simp; omega) | (simp; done)) _) | (refine Below.drew ?_) | (refine belowN ?_ _) | (refine Below.trans ?_ (Below.mono ‹Below _ _ _› (by first | omega | (simp; omega) | (simp; done))))))) (hbq.mono (by simp)); have HCN := Lib.hid (cn_any c' HPL.out HR'.out hos hA' (by omega) HO.out HCR.out); clear hown hA'; have hxs := bl2 hxo hos; have g1 := g1b.below hxs g1b.lt; have g2 := g2b.below hxs g2b.lt; (have s0 := g1.cell 0; have s1 := g1.cell 1; have s2 := g1.cell 2; have s3 := g1.cell 3; have s4 := g1.cell 4; have t0 := g2.cell 0; have t1 := g2.cell 1; have t2 := g2.cell 2; have t3 := g2.cell 3; simp at s0 s1 s2 s3 s4 t0 t1 t2 t3); have nz2 : Ws.heap.size ≠ w.heap.size ∧ Ws.heap.size ≠ w.heap.size + 1 := (by have := hxs.size; omega); (first | (have gz := gz.below hbq gz.lt) | (have gz := (Blk.new _ _ _).below hbq (by simp)) | skip); (try (have lzs := gz.lt))) |
          (go_at_call 16; refine (HCN.out _ (by (repeat (first | exact Below.refl _ _ | assumption | (refine Below.alloc ?_ (by first | omega | (simp; omega) | (simp; done)) _) | (refine Below.setCell ?_ (by first | omega | (simp; omega) | (simp; done)) _) | (refine Below.drew ?_) | (refine belowN ?_ _) | (refine Below.trans ?_ (Below.mono ‹Below _ _ _› (by first | omega | (simp; omega) | (simp; done)))))))).mono ?_; rintro _ Wk ⟨CA, c1, rfl, hCA, hCN, hbq⟩; have hxk : Below W1.heap.size W1 Wk := bl2 hxs (Below.trans (by (repeat (first | exact Below.refl _ _ | assumption | (refine Below.alloc ?_ (by first | omega | (simp; omega) | (simp; done)) _) | (refine Below.setCell ?_ (by first | omega | (simp; omega) | (simp; done)) _) | (refine Below.drew ?_) | (refine belowN ?_ _) | (refine Below.trans ?_ (Below.mono ‹Below _ _ _› (by first | omega | (simp; omega) | (simp; done))))))) (hbq.mono (by simp))); have g1 := g1b.below hxk g1b.lt; have g2 := g2b.below hxk g2b.lt; (have s0 := g1.cell 0; have s1 := g1.cell 1; have s2 := g1.cell 2; have s3 := g1.cell 3; have s4 := g1.cell 4; have t0 := g2.cell 0; have t1 := g2.cell 1; have t2 := g2.cell 2; have t3 := g2.cell 3; simp at s0 s1 s2 s3 s4 t0 t1 t2 t3); have nz3 : Wk.heap.size ≠ w.heap.size ∧ Wk.heap.size ≠ w.heap.size + 1 := (by have := hxk.size; omega); (first | (have gz := gz.below hbq gz.lt) | (have gz := (Blk.new _ _ _).below hbq (by simp)) | skip); (try (have f0 := gz.free 0; have f1 := gz.free 1; have f2 := gz.free 2; have f3 := gz.free 3; have y0 := gz.cell 0; have y1 := gz.cell 1; have y2 := gz.cell 2; have y3 := gz.cell 3; simp at y0 y1 y2 y3))))
      all_goals (
        go_wp2_with fail
        go_meet
        have e1 := hxo.size; have e2 := hos.size
        first |
          exact ⟨_, CA, c1, rfl, rfl, cen_new hxk hCA⟩ |
          exact ⟨_, CA, c1, rfl, rfl, cen_put hxk hCA hCN (by first | omega | (simp; omega) | (simp; done)) (by omega) gz⟩)
    --D>
  case rest =>
    obtain ⟨oa, CA, ca, rfl, rfl, HF⟩ := hcut
    rename World => W3
    have hw3 := bl2 hw1 HF.1
    have hz1 := g2.lt
    have g1 := g1.below HF.1 g1.lt
    have g2 := g2.below HF.1 g2.lt
    have gA := HF.2.1; have hoa := HF.2.2.2; have HLA := Lib.hid HF.2.2.1
    clear HF hw1
    (have s0 := g1.cell 0; have s1 := g1.cell 1; have s2 := g1.cell 2; have s3 := g1.cell 3; have s4 := g1.cell 4; have t0 := g2.cell 0; have t1 := g2.cell 1; have t2 := g2.cell 2; have t3 := g2.cell 3; simp at s0 s1 s2 s3 s4 t0 t1 t2 t3)
    by_cases he : er = 0
    · subst he
      obtain ⟨hv, hkb, hrb⟩ := count_okk HCR.out
      have V := valid_of HR.out.oks hv
      have hsl : (sets.length : Int) = s.places := by simp only [regB, Bool.and_eq_true, decide_eq_true_eq] at hrb; exact hrb.1
      have hpl1 := V.places
      obtain ⟨x, r, rfl⟩ : ∃ x r, sets = x :: r := by cases hs : sets with
        | nil => rw [hs] at hsl; simp at hsl; omega
        | cons x r => exact ⟨x, r, rfl⟩
      have hxu := HO.out x (by simp)
      obtain ⟨p0, p1, p2, q0, q1, q2, LX, LY, N, PS, AF, rfl, rfl, rfl⟩ := add_facts hv V hxu HP.out hkb hrb HCR.out
      have HAF := Lib.hid AF
      have hN := AF.n; have hnb := AF.nb; have hb0 := AF.b0; have hb1 := AF.b1; have hb2 := AF.b2
      have HPO := parts_of x part hxu HP.out
      have HOX : Hid (∀ y ∈ bits BinOp.and IntKind.u64 x part :: r, IsU64 y) := (fun y hy => by
        rcases List.mem_cons.1 hy with rfl | hy
        · exact HPO.oa
        · exact HO.out y (by simp [hy]) : ∀ y ∈ bits BinOp.and IntKind.u64 x part :: r, IsU64 y)
      have HOY : Hid (∀ y ∈ bits BinOp.andNot IntKind.u64 x part :: r, IsU64 y) := (fun y hy => by
        rcases List.mem_cons.1 hy with rfl | hy
        · exact HPO.ob
        · exact HO.out y (by simp [hy]) : ∀ y ∈ bits BinOp.andNot IntKind.u64 x part :: r, IsU64 y)
      obtain ⟨n, hn⟩ : ∃ n, n = (x :: r).length := ⟨_, rfl⟩
      have hn0 : 0 < n := by rw [hn]; simp
      rw [AF.l] at gA
      rw [hN] at g1 s3
      have HNN := Lib.hid hN
      have hrl : Hid (r.length + 1 = n) := (by rw [hn]; simp : r.length + 1 = n)
      rw [← hn] at g2 t1 h10
      have HSE' : Hid (∀ W, Below w.heap.size w W → Calls Try.prog 18 #[.slice A n c] W (RetOwn 63 setCell1 1 (x :: r) W)) := (fun W hW => by have h := HSE.out W hW; rw [← hn] at h; exact h : ∀ W, Below w.heap.size w W → Calls Try.prog 18 #[.slice A n c] W (RetOwn 63 setCell1 1 (x :: r) W))
      rw [← hn]
      clear hv V hkb hrb hsl hpl1 hxu AF hN HPO HSE hn
      have n2 : ((n : Int) == 0) = false := by simp; omega
      go_wp2_with fail
      go_region_held (fun W' => W'.cell? ⟨w.heap.size + 1, 1, none⟩ = some (.slice A n c)) (exact t1)
        (first | (have _ := hs1; go_at_call 18; refine (HSE'.out _ (bl2 hw3 hs1)).mono ?_; rintro _ Wq ⟨v2, rfl, hown2, hbq⟩; have hs2 := bl2 hs1 hbq; have g2 := g2b.below hs2 g2b.lt; have t1 := g2.cell 1; simp at t1) |
          (go_at_call 18; refine (HSE'.out _ (bl2 hw3 (Below.drew (Below.refl _ _)))).mono ?_; rintro _ Wp ⟨v1, rfl, hown1, hbp⟩; have hs1 : Below W3.heap.size W3 Wp := bl2 (Below.drew (Below.refl _ _)) hbp; have g2b := g2; have g2 := g2b.below hs1 g2b.lt; have t1 := g2.cell 1; simp at t1))
      obtain ⟨g, cg, cur, rfl, hg0, hgB, hgt⟩ := own_blk hown1 (by rw [List.length_cons]; omega)
      obtain ⟨h, ch, cur2, rfl, hh0, hhB, hht⟩ := own_blk hown2 (by rw [List.length_cons]; omega)
      rw [show (x :: r).length = n from by rw [List.length_cons]; exact hrl.out] at hgt hht ⊢
      have hgl := hgB.lt
      have hgB := hgB.below hbq hgl
      have hg3 : W3.heap.size ≤ g := hg0
      have hgh : g < h := by omega
      have HGT := Lib.hid hgt; have HHT := Lib.hid hht
      have z0 := hgB.cell 0; have z1 := hhB.cell 0; have f0 := hgB.free 0; have f1 := hhB.free 0
      rw [row_head hgt] at z0
      rw [row_head hht] at z1
      have hn1 : (0 : Int) < (n : Int) := by omega
      have hghn : g ≠ h := by omega
      clear hown1 hown2 hbp hbq hgl hg0 hh0 hgt hht s0 s1 s2 s3 s4 t0 t1 t2 t3
      go_wp2_with fail
      go_cut [9] (fun s9 wx => s9 = .slice (some ⟨g, 0, none⟩) n cg ∧ Hid (Below W3.heap.size W3 wx) ∧ Hid (Blk wx g (cur.setIfInBounds 0 (.int .u64 (bits BinOp.and IntKind.u64 x part))) 63) ∧ Hid (Blk wx h (cur2.setIfInBounds 0 (.int .u64 (bits BinOp.andNot IntKind.u64 x part))) 63))
      case first =>
        have hgD : Blk Wq.drew g cur 63 := hgB
        have hhD : Blk Wq.drew h cur2 63 := hhB
        go_region
        all_goals (
          go_wp2_with fail
          go_meet
          exact ⟨rfl, (by show Below _ _ _; (repeat (first | exact Below.refl _ _ | assumption | (refine Below.alloc ?_ (by first | omega | (simp; omega) | (simp; done)) _) | (refine Below.setCell ?_ (by first | omega | (simp; omega) | (simp; done)) _) | (refine Below.drew ?_) | (refine belowN ?_ _) | (refine Below.trans ?_ (Below.mono ‹Below _ _ _› (by first | omega | (simp; omega) | (simp; done))))))), (by show Blk _ _ _ _; first | exact (hgB.set 0 _).far _ (by first | omega | (simp; omega) | (simp; done)) _ | exact (hgB.far _ (by first | omega | (simp; omega) | (simp; done)) _).set 0 _ | exact (hgD.set 0 _).far _ (by first | omega | (simp; omega) | (simp; done)) _ | exact (hgD.far _ (by first | omega | (simp; omega) | (simp; done)) _).set 0 _), (by show Blk _ _ _ _; first | exact (hhB.far _ (by first | omega | (simp; omega) | (simp; done)) _).set 0 _ | exact (hhB.set 0 _).far _ (by first | omega | (simp; omega) | (simp; done)) _ | exact (hhD.far _ (by first | omega | (simp; omega) | (simp; done)) _).set 0 _ | exact (hhD.set 0 _).far _ (by first | omega | (simp; omega) | (simp; done)) _)⟩)
      case rest =>
        obtain ⟨rfl, H5, HGB, HHB⟩ := hcut
        rename World => W5
        have hw5 := bl2 hw3 H5.out
        have h35 := H5.out
        have g1 := g1.below h35 g1.lt
        have g2 := (show Blk W3 (w.heap.size + 1) _ _ from g2b).below h35 g2b.lt
        have gA := gA.below h35 gA.lt
        have HLA := Lib.hid ((HLA.out.below h35).more h35.size)
        have HOX1 := Lib.hid (sl_row HGB.out (l := bits BinOp.and IntKind.u64 x part :: r) (by rw [List.length_cons]; exact hrl.out) (row_set HGT.out))
        have HOY1 := Lib.hid (sl_row HHB.out (l := bits BinOp.andNot IntKind.u64 x part :: r) (by rw [List.length_cons]; exact hrl.out) (row_set HHT.out))
        clear H5 HGB HHB HGT HHT hs1 hs2 hgB hhB z0 z1 f0 f1 h35 hw3
        have HSX := Lib.hid (fun W (hW : Below W5.heap.size W5 W) => (HOX1.out.below hW).more hW.size)
        have hw1 := hw5
        clear hw5
        have HOWN' : Hid (∀ W, Below w.heap.size w W → Calls Try.prog 17 #[.agg #[.int .i64 s.places, .int .i64 s.signs, .int .i64 s.kinds, .int .i64 (N : Int), s.rv]] W (RetOwnS s W)) := (fun W hW => by
          have h := HOWN.out W hW
          have e : scv s s.rv = .agg #[.int .i64 s.places, .int .i64 s.signs, .int .i64 s.kinds, .int .i64 (N : Int), s.rv] := by rw [← HNN.out]
          rw [e] at h; exact h : ∀ W, Below w.heap.size w W → Calls Try.prog 17 #[.agg #[.int .i64 s.places, .int .i64 s.signs, .int .i64 s.kinds, .int .i64 (N : Int), s.rv]] W (RetOwnS s W))
        (have s0 := g1.cell 0; have s1 := g1.cell 1; have s2 := g1.cell 2; have s3 := g1.cell 3; have s4 := g1.cell 4; have t0 := g2.cell 0; have t1 := g2.cell 1; have t2 := g2.cell 2; have t3 := g2.cell 3; simp at s0 s1 s2 s3 s4 t0 t1 t2 t3)
        go_wp2_with fail
        go_cut [11, 8] (fun s11 s8 wx => ∃ (ob : Nat) (CB : Option Addr) (c1 : Nat), s11 = .pointer (some ⟨ob, 0, none⟩) ∧ s8 = .int .i64 0 ∧ CenF W5 ob p0 p1 p2 CB c1 LX wx)
        case first =>
          --D<
          as_aux_lemma =>
            have g1b := g1; have g2b := g2; have lt2 := g2.lt
            have nz0 : W5.heap.size ≠ w.heap.size ∧ W5.heap.size ≠ w.heap.size + 1 := ⟨by omega, by omega⟩
            go_region_held (fun W' => W'.cell? ⟨w.heap.size, 0, none⟩ = some (.int .i64 s.places) ∧ W'.cell? ⟨w.heap.size, 1, none⟩ = some (.int .i64 s.signs) ∧ W'.cell? ⟨w.heap.size, 2, none⟩ = some (.int .i64 s.kinds) ∧ W'.cell? ⟨w.heap.size, 3, none⟩ = some (.int .i64 (N : Int)) ∧ W'.cell? ⟨w.heap.size, 4, none⟩ = some s.rv ∧ W'.cell? ⟨w.heap.size + 1, 0, none⟩ = some (.int .i64 kind)) (first | exact ⟨s0, s1, s2, s3, s4, t0⟩ | go_keep)
              (first | (go_at_call 17; refine (HOWN'.out _ (bl2 hw1 (by (repeat (first | exact Below.refl _ _ | assumption | (refine Below.alloc ?_ (by first | omega | (simp; omega) | (simp; done)) _) | (refine Below.setCell ?_ (by first | omega | (simp; omega) | (simp; done)) _) | (refine Below.drew ?_) | (refine belowN ?_ _) | (refine Below.trans ?_ (Below.mono ‹Below _ _ _› (by first | omega | (simp; omega) | (simp; done))))))))).mono ?_; rintro _ Wo ⟨s', rfl, hpl, hr', -, hbq⟩; have HPL := Lib.hid hpl; have HR' := Lib.hid hr'; clear hpl hr'; have hxo : Below W5.heap.size W5 Wo := Below.trans (by (repeat (first | exact Below.refl _ _ | assumption | (refine Below.alloc ?_ (by first | omega | (simp; omega) | (simp; done)) _) | (refine Below.setCell ?_ (by first | omega | (simp; omega) | (simp; done)) _) | (refine Below.drew ?_) | (refine belowN ?_ _) | (refine Below.trans ?_ (Below.mono ‹Below _ _ _› (by first | omega | (simp; omega) | (simp; done))))))) (hbq.mono (by simp)); have g1 := g1b.below hxo g1b.lt; have g2 := g2b.below hxo g2b.lt; (have s0 := g1.cell 0; have s1 := g1.cell 1; have s2 := g1.cell 2; have s3 := g1.cell 3; have s4 := g1.cell 4; have t0 := g2.cell 0; have t1 := g2.cell 1; have t2 := g2.cell 2; have t3 := g2.cell 3; simp at s0 s1 s2 s3 s4 t0 t1 t2 t3); have nz1 : Wo.heap.size ≠ w.heap.size ∧ Wo.heap.size ≠ w.heap.size + 1 := (by have := hxo.size; omega); (first | (have gz : Blk Wo W5.heap.size _ _ := (Blk.new (W5).drew _ _).below hbq (by simp)) | skip); (try (have lzs := gz.lt))) |
                (go_at_call 16; refine (cn2_any _ HPL.out HR'.out (by (repeat (first | exact Below.refl _ _ | assumption | (refine Below.alloc ?_ (by first | omega | (simp; omega) | (simp; done)) _) | (refine Below.setCell ?_ (by first | omega | (simp; omega) | (simp; done)) _) | (refine Below.drew ?_) | (refine belowN ?_ _) | (refine Below.trans ?_ (Below.mono ‹Below _ _ _› (by first | omega | (simp; omega) | (simp; done))))))) (HSX.out _ (bl2 hxo (by (repeat (first | exact Below.refl _ _ | assumption | (refine Below.alloc ?_ (by first | omega | (simp; omega) | (simp; done)) _) | (refine Below.setCell ?_ (by first | omega | (simp; omega) | (simp; done)) _) | (refine Below.drew ?_) | (refine belowN ?_ _) | (refine Below.trans ?_ (Below.mono ‹Below _ _ _› (by first | omega | (simp; omega) | (simp; done))))))))) (by rw [List.length_cons]; exact hrl.out) (by omega) HOX.out HAF.out.cx).mono ?_; rintro _ Wk ⟨CB, c1, rfl, hCB, hCN, hbq⟩; have hxk : Below W5.heap.size W5 Wk := bl2 hxo (Below.trans (by (repeat (first | exact Below.refl _ _ | assumption | (refine Below.alloc ?_ (by first | omega | (simp; omega) | (simp; done)) _) | (refine Below.setCell ?_ (by first | omega | (simp; omega) | (simp; done)) _) | (refine Below.drew ?_) | (refine belowN ?_ _) | (refine Below.trans ?_ (Below.mono ‹Below _ _ _› (by first | omega | (simp; omega) | (simp; done))))))) (hbq.mono (by simp))); have g1 := g1b.below hxk g1b.lt; have g2 := g2b.below hxk g2b.lt; (have s0 := g1.cell 0; have s1 := g1.cell 1; have s2 := g1.cell 2; have s3 := g1.cell 3; have s4 := g1.cell 4; have t0 := g2.cell 0; have t1 := g2.cell 1; have t2 := g2.cell 2; have t3 := g2.cell 3; simp at s0 s1 s2 s3 s4 t0 t1 t2 t3); have nz3 : Wk.heap.size ≠ w.heap.size ∧ Wk.heap.size ≠ w.heap.size + 1 := (by have := hxk.size; omega); (first | (have gz := gz.below hbq gz.lt) | (have gz := (Blk.new _ _ _).below hbq (by simp)) | skip); (try (have f0 := gz.free 0; have f1 := gz.free 1; have f2 := gz.free 2; have f3 := gz.free 3; have y0 := gz.cell 0; have y1 := gz.cell 1; have y2 := gz.cell 2; have y3 := gz.cell 3; simp at y0 y1 y2 y3))))
            all_goals (
              go_wp2_with fail
              go_meet
              have e1 := hxo.size
              first |
                exact ⟨_, CB, c1, rfl, rfl, cen_new hxk hCB⟩ |
                exact ⟨_, CB, c1, rfl, rfl, cen_put hxk hCB hCN (by first | omega | (simp; omega) | (simp; done)) (by omega) gz⟩)
          --D>
        case rest =>
          obtain ⟨ox, XA, cx, rfl, rfl, HF⟩ := hcut
          rename World => W6
          have h56 := HF.1
          have hw6 := bl2 hw1 h56
          have g1 := g1.below h56 g1.lt
          have g2 := g2.below h56 g2.lt
          have gA := gA.below h56 gA.lt
          have HLA := Lib.hid ((HLA.out.below h56).more h56.size)
          have gX := HF.2.1; have HLX := Lib.hid HF.2.2.1
          rw [HAF.out.lx] at gX
          have HSY := Lib.hid (fun W (hW : Below W6.heap.size W6 W) => (HOY1.out.below (bl2 h56 hW)).more (bl2 h56 hW).size)
          clear HF hw1 HSX s0 s1 s2 s3 s4 t0 t1 t2 t3
          have hw1 := hw6
          (have s0 := g1.cell 0; have s1 := g1.cell 1; have s2 := g1.cell 2; have s3 := g1.cell 3; have s4 := g1.cell 4; have t0 := g2.cell 0; have t1 := g2.cell 1; have t2 := g2.cell 2; have t3 := g2.cell 3; simp at s0 s1 s2 s3 s4 t0 t1 t2 t3)
          go_wp2_with fail
          go_cut [12, 13] (fun s12 s13 wx => ∃ (ob : Nat) (CB : Option Addr) (c1 : Nat), s12 = .pointer (some ⟨ob, 0, none⟩) ∧ s13 = .int .i64 0 ∧ CenF W6 ob q0 q1 q2 CB c1 LY wx)
          case first =>
            --D<
            as_aux_lemma =>
              have g1b := g1; have g2b := g2; have lt2 := g2.lt
              have nz0 : W6.heap.size ≠ w.heap.size ∧ W6.heap.size ≠ w.heap.size + 1 := ⟨by omega, by omega⟩
              go_region_held (fun W' => W'.cell? ⟨w.heap.size, 0, none⟩ = some (.int .i64 s.places) ∧ W'.cell? ⟨w.heap.size, 1, none⟩ = some (.int .i64 s.signs) ∧ W'.cell? ⟨w.heap.size, 2, none⟩ = some (.int .i64 s.kinds) ∧ W'.cell? ⟨w.heap.size, 3, none⟩ = some (.int .i64 (N : Int)) ∧ W'.cell? ⟨w.heap.size, 4, none⟩ = some s.rv ∧ W'.cell? ⟨w.heap.size + 1, 0, none⟩ = some (.int .i64 kind)) (first | exact ⟨s0, s1, s2, s3, s4, t0⟩ | go_keep)
                (first | (go_at_call 17; refine (HOWN'.out _ (bl2 hw1 (by (repeat (first | exact Below.refl _ _ | assumption | (refine Below.alloc ?_ (by first | omega | (simp; omega) | (simp; done)) _) | (refine Below.setCell ?_ (by first | omega | (simp; omega) | (simp; done)) _) | (refine Below.drew ?_) | (refine belowN ?_ _) | (refine Below.trans ?_ (Below.mono ‹Below _ _ _› (by first | omega | (simp; omega) | (simp; done))))))))).mono ?_; rintro _ Wo ⟨s', rfl, hpl, hr', -, hbq⟩; have HPL := Lib.hid hpl; have HR' := Lib.hid hr'; clear hpl hr'; have hxo : Below W6.heap.size W6 Wo := Below.trans (by (repeat (first | exact Below.refl _ _ | assumption | (refine Below.alloc ?_ (by first | omega | (simp; omega) | (simp; done)) _) | (refine Below.setCell ?_ (by first | omega | (simp; omega) | (simp; done)) _) | (refine Below.drew ?_) | (refine belowN ?_ _) | (refine Below.trans ?_ (Below.mono ‹Below _ _ _› (by first | omega | (simp; omega) | (simp; done))))))) (hbq.mono (by simp)); have g1 := g1b.below hxo g1b.lt; have g2 := g2b.below hxo g2b.lt; (have s0 := g1.cell 0; have s1 := g1.cell 1; have s2 := g1.cell 2; have s3 := g1.cell 3; have s4 := g1.cell 4; have t0 := g2.cell 0; have t1 := g2.cell 1; have t2 := g2.cell 2; have t3 := g2.cell 3; simp at s0 s1 s2 s3 s4 t0 t1 t2 t3); have nz1 : Wo.heap.size ≠ w.heap.size ∧ Wo.heap.size ≠ w.heap.size + 1 := (by have := hxo.size; omega); (first | (have gz : Blk Wo W6.heap.size _ _ := (Blk.new (W6).drew _ _).below hbq (by simp)) | skip); (try (have lzs := gz.lt))) |
                  (go_at_call 16; refine (cn2_any _ HPL.out HR'.out (by (repeat (first | exact Below.refl _ _ | assumption | (refine Below.alloc ?_ (by first | omega | (simp; omega) | (simp; done)) _) | (refine Below.setCell ?_ (by first | omega | (simp; omega) | (simp; done)) _) | (refine Below.drew ?_) | (refine belowN ?_ _) | (refine Below.trans ?_ (Below.mono ‹Below _ _ _› (by first | omega | (simp; omega) | (simp; done))))))) (HSY.out _ (bl2 hxo (by (repeat (first | exact Below.refl _ _ | assumption | (refine Below.alloc ?_ (by first | omega | (simp; omega) | (simp; done)) _) | (refine Below.setCell ?_ (by first | omega | (simp; omega) | (simp; done)) _) | (refine Below.drew ?_) | (refine belowN ?_ _) | (refine Below.trans ?_ (Below.mono ‹Below _ _ _› (by first | omega | (simp; omega) | (simp; done))))))))) (by rw [List.length_cons]; exact hrl.out) (by omega) HOY.out HAF.out.cy).mono ?_; rintro _ Wk ⟨CB, c1, rfl, hCB, hCN, hbq⟩; have hxk : Below W6.heap.size W6 Wk := bl2 hxo (Below.trans (by (repeat (first | exact Below.refl _ _ | assumption | (refine Below.alloc ?_ (by first | omega | (simp; omega) | (simp; done)) _) | (refine Below.setCell ?_ (by first | omega | (simp; omega) | (simp; done)) _) | (refine Below.drew ?_) | (refine belowN ?_ _) | (refine Below.trans ?_ (Below.mono ‹Below _ _ _› (by first | omega | (simp; omega) | (simp; done))))))) (hbq.mono (by simp))); have g1 := g1b.below hxk g1b.lt; have g2 := g2b.below hxk g2b.lt; (have s0 := g1.cell 0; have s1 := g1.cell 1; have s2 := g1.cell 2; have s3 := g1.cell 3; have s4 := g1.cell 4; have t0 := g2.cell 0; have t1 := g2.cell 1; have t2 := g2.cell 2; have t3 := g2.cell 3; simp at s0 s1 s2 s3 s4 t0 t1 t2 t3); have nz3 : Wk.heap.size ≠ w.heap.size ∧ Wk.heap.size ≠ w.heap.size + 1 := (by have := hxk.size; omega); (first | (have gz := gz.below hbq gz.lt) | (have gz := (Blk.new _ _ _).below hbq (by simp)) | skip); (try (have f0 := gz.free 0; have f1 := gz.free 1; have f2 := gz.free 2; have f3 := gz.free 3; have y0 := gz.cell 0; have y1 := gz.cell 1; have y2 := gz.cell 2; have y3 := gz.cell 3; simp at y0 y1 y2 y3))))
              all_goals (
                go_wp2_with fail
                go_meet
                have e1 := hxo.size
                first |
                  exact ⟨_, CB, c1, rfl, rfl, cen_new hxk hCB⟩ |
                  exact ⟨_, CB, c1, rfl, rfl, cen_put hxk hCB hCN (by first | omega | (simp; omega) | (simp; done)) (by omega) gz⟩)
            --D>
          case rest =>
            obtain ⟨oy, YA, cy, rfl, rfl, HF⟩ := hcut
            rename World => W7
            have h67 := HF.1
            have hw7 := bl2 hw6 h67
            have g1 := g1.below h67 g1.lt
            have g2 := g2.below h67 g2.lt
            have gA := gA.below h67 gA.lt
            have HLA := Lib.hid ((HLA.out.below h67).more h67.size)
            have gX := gX.below h67 gX.lt
            have HLX := Lib.hid ((HLX.out.below h67).more h67.size)
            have gY := HF.2.1; have HLY := Lib.hid HF.2.2.1
            rw [HAF.out.ly] at gY
            have HL := HAF.out.l
            clear HF hw1 HSY HOX1 HOY1 hw6 s0 s1 s2 s3 s4 t0 t1 t2 t3
            (have s0 := g1.cell 0; have s1 := g1.cell 1; have s2 := g1.cell 2; have s3 := g1.cell 3; have s4 := g1.cell 4; have t0 := g2.cell 0; have t1 := g2.cell 1; have t2 := g2.cell 2; have t3 := g2.cell 3; simp at s0 s1 s2 s3 s4 t0 t1 t2 t3)
            have a0 := gA.cell 0; have a1 := gA.cell 1; have a2 := gA.cell 2; have a3 := gA.cell 3
            have x0 := gX.cell 0; have x1 := gX.cell 1; have x2 := gX.cell 2; have x3 := gX.cell 3
            have y0 := gY.cell 0; have y1 := gY.cell 1; have y2 := gY.cell 2; have y3 := gY.cell 3
            simp at a0 a1 a2 a3 x0 x1 x2 x3 y0 y1 y2 y3
            obtain ⟨b01, b02, b03, b04⟩ := hb0
            obtain ⟨b11, b12, b13, b14⟩ := hb1
            obtain ⟨b21, b22, b23, b24⟩ := hb2
            clear HL
            go_wp2_with fail
            clear s0 s1 s2 s3 s4 t0 t1 t2 t3 a0 a1 a2 a3 x0 x1 x2 x3 y0 y1 y2 y3
            go_loopw [14, 15] (fun v i wr => ∃ j : Nat, j ≤ N ∧ i = .int .i64 j ∧ v = .int .i64 (PS j) ∧ Below W7.heap.size W7 wr) (fun _ i _ => N - (intOf i).toNat)
            case atStart => exact ⟨0, by omega, rfl, by rw [HAF.out.z], Below.refl _ _⟩
            case round =>
              obtain ⟨j, hj, rfl, rfl, hb⟩ := hrel
              have hw1 : Below w.heap.size w wr := bl2 hw7 hb
              have gA := gA.below hb gA.lt
              have gX := gX.below hb gX.lt
              have gY := gY.below hb gY.lt
              have a3 := gA.cell 3; have x3 := gX.cell 3; have y3 := gY.cell 3
              simp at a3 x3 y3
              by_cases hlt : j < N
              · obtain ⟨u, v, hu, hv, huv, u0, v0, u1, v1, hps⟩ := HAF.out.at_ j hlt
                have hbs := HAF.out.b j
                obtain ⟨ab, ao, hae, hblk, hcell⟩ := (HLA.out.below hb).at_ (k := j) (fun _ => rfl) (by rw [HAF.out.l]; exact hlt)
                obtain ⟨xb, xo, hxe, hblk2, hcell2⟩ := (HLX.out.below hb).at_ (k := j) (fun _ => rfl) (by rw [HAF.out.lx]; exact hlt)
                obtain ⟨yb, yo, hye, hblk3, hcell3⟩ := (HLY.out.below hb).at_ (k := j) (fun _ => rfl) (by rw [HAF.out.ly]; exact hlt)
                have ea : L[j]'(by rw [HAF.out.l]; exact hlt) = u + v := by rw [List.getElem?_eq_getElem (by rw [HAF.out.l]; exact hlt)] at huv; exact Option.some.inj huv
                have ex : LX[j]'(by rw [HAF.out.lx]; exact hlt) = u := by rw [List.getElem?_eq_getElem (by rw [HAF.out.lx]; exact hlt)] at hu; exact Option.some.inj hu
                have ey : LY[j]'(by rw [HAF.out.ly]; exact hlt) = v := by rw [List.getElem?_eq_getElem (by rw [HAF.out.ly]; exact hlt)] at hv; exact Option.some.inj hv
                rw [ea] at hcell; rw [ex] at hcell2; rw [ey] at hcell3
                have c1 : wr.cell? ⟨ab, ao + j, none⟩ = some (.int .i64 (u + v)) := by have := hcell 0 _ rfl; simpa using this
                have c2 : wr.cell? ⟨xb, xo + j, none⟩ = some (.int .i64 u) := by have := hcell2 0 _ rfl; simpa using this
                have c3 : wr.cell? ⟨yb, yo + j, none⟩ = some (.int .i64 v) := by have := hcell3 0 _ rfl; simpa using this
                rw [hae] at a3; rw [hxe] at x3; rw [hye] at y3
                have hj0 : (0 : Int) ≤ (j : Int) := by omega
                have hj1 : (j : Int) < (N : Int) := by omega
                have d0 : decide (u + v < 0) = false := by simp; omega
                have d1 : (u + v != u + v) = false := by simp
                have hw2 : IntKind.i64.wrap (u + v) = u + v := IntWalk.i64_in _ ⟨by omega, by omega⟩
                have HPS := Lib.hid hps
                obtain ⟨S, hS⟩ : ∃ S, S = PS j := ⟨_, rfl⟩
                rw [← hS] at HPS hbs ⊢
                obtain ⟨hs0, hs1⟩ := hbs
                have HSE := Lib.hid hS
                clear hcell hcell2 hcell3 ea ex ey hu hv huv hae hxe hye hps hS gA gX gY
                as_aux_lemma =>
                  go_wp2_with fail
                  (refine wp_region_ext (by kernel_rfl) (by kernel_rfl) ?_; (repeat (go_big_quiet_step((fail)))); with_reducible refine wpQuiet_nil ?_; intro w2 hw2; have hb1 := ext_below hw2; clear hw2)
                  have a3 := (hb1.cell (p := ⟨oa, 3, none⟩) (World.block_lt_of_cell? wr _ a3)).trans a3
                  have c1 := (hb1.cell (p := ⟨ab, ao + j, none⟩) (World.block_lt_of_cell? wr _ c1)).trans c1
                  go_wp2_with fail
                  go_roundw
                  case rel => exact ⟨j + 1, by omega, by go_num, by rw [HPS.out], bl2 hb hb1⟩
                  case measure => simp [intOf] <;> omega
              · obtain rfl : N = j := by omega
                rw [HAF.out.e]
                have hlt2 : decide ((N : Int) < (N : Int)) = false := by simp
                have g1 := g1.below hb g1.lt
                have g2 := g2.below hb g2.lt
                (have s0 := g1.cell 0; have s1 := g1.cell 1; have s2 := g1.cell 2; have s3 := g1.cell 3; have s4 := g1.cell 4; have t0 := g2.cell 0; have t1 := g2.cell 1; have t2 := g2.cell 2; have t3 := g2.cell 3; simp at s0 s1 s2 s3 s4 t0 t1 t2 t3)
                go_wp2_with fail
                obtain ⟨z1, z2, bt, hk1, e1, e2⟩ := HAF.out.kt none 0
                obtain ⟨y1, y2, bc, hk2, e3, e4⟩ := HAF.out.kc none 0
                have HK1 : Hid (∀ A c, keepsR s [⟨kind, A, c, x :: r, true, false⟩] = (z1, z2, 0)) := (fun A c => (keeps_cong rfl rfl).trans hk1 : ∀ A c, keepsR s [⟨kind, A, c, x :: r, true, false⟩] = (z1, z2, 0))
                have HK2 : Hid (∀ A c, keepsR s [⟨kind, A, c, x :: r, false, true⟩] = (y1, y2, 0)) := (fun A c => (keeps_cong rfl rfl).trans hk2 : ∀ A c, keepsR s [⟨kind, A, c, x :: r, false, true⟩] = (y1, y2, 0))
                have E1 := Lib.hid e1; have E2 := Lib.hid e2; have E3 := Lib.hid e3; have E4 := Lib.hid e4
                clear hk1 hk2 e1 e2 e3 e4 hlt2 hlt a3 x3 y3
                as_aux_lemma =>
                  have g1b := g1; have g2b := g2
                  have nz0 : wr.heap.size ≠ w.heap.size ∧ wr.heap.size ≠ w.heap.size + 1 := (by have := g2.lt; omega)
                  go_region_held (fun W' => W'.cell? ⟨w.heap.size, 0, none⟩ = some (.int .i64 s.places) ∧ W'.cell? ⟨w.heap.size, 1, none⟩ = some (.int .i64 s.signs) ∧ W'.cell? ⟨w.heap.size, 2, none⟩ = some (.int .i64 s.kinds) ∧ W'.cell? ⟨w.heap.size, 3, none⟩ = some (.int .i64 (N : Int)) ∧ W'.cell? ⟨w.heap.size, 4, none⟩ = some s.rv ∧ W'.cell? ⟨w.heap.size + 1, 0, none⟩ = some (.int .i64 kind) ∧ W'.cell? ⟨w.heap.size + 1, 1, none⟩ = some (.slice A n c)) (first | exact ⟨s0, s1, s2, s3, s4, t0, t1⟩ | go_keep)
                    (first | (go_at_call 17; refine (HOWN'.out _ (bl2 hw1 (by (repeat (first | exact Below.refl _ _ | assumption | (refine Below.alloc ?_ (by first | omega | (simp; omega) | (simp; done)) _) | (refine Below.setCell ?_ (by first | omega | (simp; omega) | (simp; done)) _) | (refine Below.drew ?_) | (refine belowN ?_ _) | (refine Below.trans ?_ (Below.mono ‹Below _ _ _› (by first | omega | (simp; omega) | (simp; done))))))))).mono ?_; rintro _ Wo ⟨s', rfl, hpl, hr', -, hbq⟩; have HPL := Lib.hid hpl; have HR' := Lib.hid hr'; clear hpl hr'; have hxo : Below wr.heap.size wr Wo := Below.trans (by (repeat (first | exact Below.refl _ _ | assumption | (refine Below.alloc ?_ (by first | omega | (simp; omega) | (simp; done)) _) | (refine Below.setCell ?_ (by first | omega | (simp; omega) | (simp; done)) _) | (refine Below.drew ?_) | (refine belowN ?_ _) | (refine Below.trans ?_ (Below.mono ‹Below _ _ _› (by first | omega | (simp; omega) | (simp; done))))))) (hbq.mono (by simp)); have g1 := g1b.below hxo g1b.lt; have g2 := g2b.below hxo g2b.lt; (have s0 := g1.cell 0; have s1 := g1.cell 1; have s2 := g1.cell 2; have s3 := g1.cell 3; have s4 := g1.cell 4; have t0 := g2.cell 0; have t1 := g2.cell 1; have t2 := g2.cell 2; have t3 := g2.cell 3; simp at s0 s1 s2 s3 s4 t0 t1 t2 t3)) |
                      (go_at_call 18; refine (HSE'.out _ (bl2 hw1 hxo)).mono ?_; rintro _ Ws ⟨v, rfl, hown, hbq⟩; obtain ⟨A', c', rfl, hA'⟩ := Sl.of_own hown; have HA' := Lib.hid hA'; clear hown hA'; have hos := bl2 (Below.refl _ Wo) hbq; have hxs := bl2 hxo hos; have g1 := g1b.below hxs g1b.lt; have g2 := g2b.below hxs g2b.lt; (have s0 := g1.cell 0; have s1 := g1.cell 1; have s2 := g1.cell 2; have s3 := g1.cell 3; have s4 := g1.cell 4; have t0 := g2.cell 0; have t1 := g2.cell 1; have t2 := g2.cell 2; have t3 := g2.cell 3; simp at s0 s1 s2 s3 s4 t0 t1 t2 t3)) |
                      (go_at_call 23; refine (kl_any c' HPL.out HR'.out hos HA'.out (by rw [List.length_cons, hrl.out]; omega) HO.out HK1.out).mono ?_; rintro _ W8 ⟨rfl, hbq⟩; have h8 := bl3 hxs hbq; have g1 := g1b.below h8 g1b.lt; have g2 := g2b.below h8 g2b.lt; (have s0 := g1.cell 0; have s1 := g1.cell 1; have s2 := g1.cell 2; have s3 := g1.cell 3; have s4 := g1.cell 4; have t0 := g2.cell 0; have t1 := g2.cell 1; have t2 := g2.cell 2; have t3 := g2.cell 3; simp at s0 s1 s2 s3 s4 t0 t1 t2 t3)))
                  all_goals (
                    have hw8 := bl2 hw1 h8
                    go_wp2_with fail
                    have g1b := g1; have g2b := g2
                    have nz0 : W8.heap.size ≠ w.heap.size ∧ W8.heap.size ≠ w.heap.size + 1 := (by have := g2.lt; omega)
                    go_region_held (fun W' => W'.cell? ⟨w.heap.size, 0, none⟩ = some (.int .i64 s.places) ∧ W'.cell? ⟨w.heap.size, 1, none⟩ = some (.int .i64 s.signs) ∧ W'.cell? ⟨w.heap.size, 2, none⟩ = some (.int .i64 s.kinds) ∧ W'.cell? ⟨w.heap.size, 3, none⟩ = some (.int .i64 (N : Int)) ∧ W'.cell? ⟨w.heap.size, 4, none⟩ = some s.rv ∧ W'.cell? ⟨w.heap.size + 1, 0, none⟩ = some (.int .i64 kind) ∧ W'.cell? ⟨w.heap.size + 1, 1, none⟩ = some (.slice A n c)) (first | exact ⟨s0, s1, s2, s3, s4, t0, t1⟩ | go_keep)
                      (first | (go_at_call 17; refine (HOWN'.out _ (bl2 hw8 (by (repeat (first | exact Below.refl _ _ | assumption | (refine Below.alloc ?_ (by first | omega | (simp; omega) | (simp; done)) _) | (refine Below.setCell ?_ (by first | omega | (simp; omega) | (simp; done)) _) | (refine Below.drew ?_) | (refine belowN ?_ _) | (refine Below.trans ?_ (Below.mono ‹Below _ _ _› (by first | omega | (simp; omega) | (simp; done))))))))).mono ?_; rintro _ Wo ⟨s', rfl, hpl, hr', -, hbq⟩; have HPL := Lib.hid hpl; have HR' := Lib.hid hr'; clear hpl hr'; have hxo : Below W8.heap.size W8 Wo := Below.trans (by (repeat (first | exact Below.refl _ _ | assumption | (refine Below.alloc ?_ (by first | omega | (simp; omega) | (simp; done)) _) | (refine Below.setCell ?_ (by first | omega | (simp; omega) | (simp; done)) _) | (refine Below.drew ?_) | (refine belowN ?_ _) | (refine Below.trans ?_ (Below.mono ‹Below _ _ _› (by first | omega | (simp; omega) | (simp; done))))))) (hbq.mono (by simp)); have g1 := g1b.below hxo g1b.lt; have g2 := g2b.below hxo g2b.lt; (have s0 := g1.cell 0; have s1 := g1.cell 1; have s2 := g1.cell 2; have s3 := g1.cell 3; have s4 := g1.cell 4; have t0 := g2.cell 0; have t1 := g2.cell 1; have t2 := g2.cell 2; have t3 := g2.cell 3; simp at s0 s1 s2 s3 s4 t0 t1 t2 t3)) |
                        (go_at_call 18; refine (HSE'.out _ (bl2 hw8 hxo)).mono ?_; rintro _ Ws ⟨v, rfl, hown, hbq⟩; obtain ⟨A', c', rfl, hA'⟩ := Sl.of_own hown; have HA' := Lib.hid hA'; clear hown hA'; have hos := bl2 (Below.refl _ Wo) hbq; have hxs := bl2 hxo hos; have g1 := g1b.below hxs g1b.lt; have g2 := g2b.below hxs g2b.lt; (have s0 := g1.cell 0; have s1 := g1.cell 1; have s2 := g1.cell 2; have s3 := g1.cell 3; have s4 := g1.cell 4; have t0 := g2.cell 0; have t1 := g2.cell 1; have t2 := g2.cell 2; have t3 := g2.cell 3; simp at s0 s1 s2 s3 s4 t0 t1 t2 t3)) |
                        (go_at_call 23; refine (kl_any c' HPL.out HR'.out hos HA'.out (by rw [List.length_cons, hrl.out]; omega) HO.out HK2.out).mono ?_; rintro _ W9 ⟨rfl, hbq⟩; have h9 := bl3 hxs hbq; have g1 := g1b.below h9 g1b.lt; have g2 := g2b.below h9 g2b.lt; (have s0 := g1.cell 0; have s1 := g1.cell 1; have s2 := g1.cell 2; have s3 := g1.cell 3; have s4 := g1.cell 4; have t0 := g2.cell 0; have t1 := g2.cell 1; have t2 := g2.cell 2; have t3 := g2.cell 3; simp at s0 s1 s2 s3 s4 t0 t1 t2 t3)))
                    all_goals (
                      have hw9 := bl2 hw8 h9
                      have gA := (gA.below h8 gA.lt).below h9 (by have := gA.lt; have := h8.size; omega)
                      have a0 := gA.cell 0; have a1 := gA.cell 1; have a2 := gA.cell 2; have a3 := gA.cell 3
                      simp at a0 a1 a2 a3
                      have e1 := E1.out; have e2 := E2.out; have e3 := E3.out; have e4 := E4.out
                      cases bt <;> cases bc
                      all_goals (
                        go_wp2_with (go_at_call 15; refine (known_any _).mono ?_; rintro _ Wk ⟨rfl, hbk'⟩)
                        go_ret
                        exact ⟨rfl, bl2 hw9 hbk'⟩)))
    · have hz := count_err HCR.out he
      subst hz
      have n1 : (er != 0) = true := by simpa using he
      have y0 : W3.cell? ⟨oa, 0, none⟩ = some (.int .i64 0) := by have := gA.cell 0; simpa using this
      clear he
      go_wp2_with (go_at_call 15; refine (known_any _).mono ?_; rintro _ Wk ⟨rfl, hbk'⟩)
      go_ret
      exact ⟨rfl, bl2 hw3 hbk'⟩
end Go.Proofs.Ytidlmbajpbbilaa

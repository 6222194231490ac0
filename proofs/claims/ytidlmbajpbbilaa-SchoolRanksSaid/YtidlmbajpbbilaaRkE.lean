/- The law SchoolRanks: the walk. -/
import Derived.Test.YtidlmbajpbbilaaZ24RkB
import Derived.Deep.RegionHeld
import Derived.Deep.DeepCutAuto
import Derived.Deep.CutBlock
import Derived.Test.YtidlmbajpbbilaaPlan
import Derived.Test.YtidlmbajpbbilaaZ23Fr
import Derived.Test.YtidlmbajpbbilaaScPN
namespace Go.Proofs.Ytidlmbajpbbilaa
open Go.RowKit

theorem sl_some' {α : Type} {f : α → List Value} {size : Nat} {w : World} {B : Nat} {A : Option Addr} {l : List α} (h : Sl f size w B A l) (hl : 0 < l.length) : A ≠ none := by
  obtain ⟨b, o, e, _⟩ := h.2 hl
  rw [e]; simp
theorem ints_rk {A' : Option Addr} {c' n : Nat} {ch : List Int} {W : World} (hA : Sl intCell 1 W W.heap.size A' ch) (hn : ch.length = n) (h1 : 0 < n ∧ n ≤ 1000000) :
    Calls Try.prog 38 #[.slice A' n c'] W fun e W' => ∃ A2 c2, e = .returned (.slice A2 n c2) ∧ Sl intCell 1 W' W'.heap.size A2 ch ∧ Below W.heap.size W W' := by
  have h := lints_any A' c' ch W (by omega) (fun e => absurd e (sl_some' hA (by omega))) (oneCell_ints _) hA
  rw [hn] at h
  refine h.mono ?_
  rintro _ W' ⟨v, rfl, ho, hb⟩
  obtain ⟨A2, c2, rfl, hs⟩ := Sl.of_own ho
  exact ⟨A2, c2, by rw [hn], hs, hb⟩
theorem rdn_rk {s s' : Sch} {A' : Option Addr} (c' : Nat) {kind kd : Int} {ch RQ RM : List Int} {n : Nat} {W : World} (hpl : s'.pl = s.pl) (hr : s'.reads W W.heap.size) (hA : Sl intCell 1 W W.heap.size A' ch) (hn : ch.length = n) (hl : ch.length ≤ 1000000)
    (hrr : readR s ch kind = (kd, RQ, RM, 0)) : Calls Try.prog 33 #[scv s' s'.rv, .slice A' n c', .int .i64 kind] W (RetReadN (kd, RQ, RM, 0) W) := by
  have h := read_new s' ch kind A' c' W hr hl hA
  rw [← readR_pl, hpl, readR_pl, hrr, hn] at h; exact h
theorem rk_chart {s : Sch} (hv : schB s = true) (V : Valid s) {b : Bool} {L : List Int} {j : Nat} (hj : j = s.places.toNat)
    (hy : b = true → L.length = (fullL s j).length ∧ Picked (fullL s j) L) (hn : b = false → L = [] ∧ ∃ x ∈ fullL s j, ∀ f : Nat, f < 64 → bitB x (f : Int) = false) : b = true ∧ 0 < L.length ∧ L.length ≤ 1000000 ∧ chartB s L = true := by
  subst hj
  obtain ⟨h1, h2, h3⟩ := full_chart hv V (A := none) (c := 0) hy hn
  refine ⟨h1, ?_, h2, h3⟩
  have h := (hy h1).1
  rw [show (fullL s s.places.toNat).length = s.places.toNat from List.length_replicate] at h
  have := V.places
  omega
theorem own_sl {W : World} {A : Option Addr} {c b : Nat} {l : List Int} (h : W.ownsRow b 3 1 (.slice A l.length c) l.length (flat intCell l)) : Sl intCell 1 W W.heap.size A l := by
  obtain ⟨A', k, hv, hs⟩ := Sl.of_own h
  injection hv with h6 h7 h8
  subst h6
  exact hs
theorem same_rk {A A2 : Option Addr} {c c2 : Nat} {a : List Int} {w : World} (hl : a.length ≤ 1000000) (hr : Sl intCell 1 w w.heap.size A a) (hr2 : Sl intCell 1 w w.heap.size A2 a) :
    Calls Try.prog 22 #[.slice A a.length c, .slice A2 a.length c2] w fun e w' => e = .returned (.bool true) ∧ Below w.heap.size w w' := by
  have h := lsame_any A A2 c c2 a a w hl hr hr2
  rw [show (a == a) = true by simp] at h; exact h
theorem chk_yes {s s' : Sch} {v : Bool} (h : schB s = v) (hp : s'.pl = s.pl) (w : World) (hr : s'.reads w w.heap.size) : Calls Try.prog 36 #[scv s' s'.rv] w fun e w' => e = .returned (.int .i64 (errB v)) ∧ Below w.heap.size w w' :=
  chk_any (by rw [← schB_pl, hp, schB_pl]; exact h) w hr
set_option maxRecDepth 100000 in
set_option maxHeartbeats 100000000 in
theorem lwranks_ok (s : Sch) (m : Rul) (Bq : Option Addr) (bc : Nat) (bs : List Int) (w : World) (HRR : Hid (s.wreads w w.heap.size)) (HN0 : Hid s.nil0) (HMW : Hid (m.wreads w w.heap.size)) (HM0 : Hid m.nil0)
    (HBY : Hid (Sl byteCell 1 w w.heap.size Bq bs)) (HBV : Hid (∀ v ∈ bs, 0 ≤ v ∧ v < 256)) (hg : largeB s 600 = false) (h29 : s.rules.length ≤ 29) (h8 : m.when_.length ≤ 8) (h10 : bs.length ≤ 10) (hv : schB s = true) :
    Calls Try.prog 9 #[scv s s.rv, .agg #[.slice m.wa m.when_.length m.wc, .int .i64 m.kinds, .int .i64 m.rank, .slice m.ua m.unless_.length m.uc, .int .i64 m.says], .slice Bq bs.length bc] w fun e w' => e = .returned (.bool true) ∧ Below w.heap.size w w' := by
  obtain ⟨hlen, hall, -⟩ := not_large hg
  have d1 : decide (29 < (s.rules.length : Int)) = false := by simp; omega
  have d1' : decide (29 < s.rules.length) = false := by simp; omega
  have d2 : decide (8 < (m.when_.length : Int)) = false := by simp; omega
  have d2' : decide (8 < m.when_.length) = false := by simp; omega
  have d3 : decide (10 < (bs.length : Int)) = false := by simp; omega
  have d3' : decide (10 < bs.length) = false := by simp; omega
  have HR := Lib.hid (reads_of_weak HRR.out hlen hall)
  have V := valid_of HR.out.oks hv
  have HV := Lib.hid hv; have HVA := Lib.hid V
  obtain ⟨p1, p2⟩ := V.places; obtain ⟨q1, q2⟩ := V.signs; obtain ⟨k1, k2⟩ := V.kinds
  have e1 : decide (s.places < 1) = false := by simp; omega
  have e2 : decide (6 < s.places) = false := by simp; omega
  have e3 : decide (s.signs < 1) = false := by simp; omega
  have e4 : decide (64 < s.signs) = false := by simp; omega
  have e5 : decide (s.kinds < 1) = false := by simp; omega
  have e6 : decide (4 < s.kinds) = false := by simp; omega
  have HOWN := Lib.hid (fun W (hW : Below w.heap.size w W) => own_new s W ((HR.out.below hW).more hW.size) HN0.out (by omega))
  clear hall hv V
  go_enter Try.func9, Try.ntmps9
  go_wp2_with (first | (go_at_call 14; refine (large_any s 600 _ ((HRR.out.below (by (repeat (first | exact Below.refl _ _ | assumption | (refine Below.alloc ?_ (by first | omega | (simp; omega) | (simp; done)) _) | (refine Below.setCell ?_ (by first | omega | (simp; omega) | (simp; done)) _) | (refine Below.drew ?_) | (refine belowN ?_ _) | (refine Below.trans ?_ (Below.mono ‹Below _ _ _› (by first | omega | (simp; omega) | (simp; done)))))))).more (by simp; omega))).mono ?_; rintro _ W1 ⟨rfl, hbx⟩; rw [hg]; have hw1 := bl2 (bla (bla (Below.refl _ _))) hbx; have g1 : Blk W1 w.heap.size #[.int .i64 s.places, .int .i64 s.signs, .int .i64 s.kinds, .int .i64 s.answers, s.rv] 24 := ((Blk.at_ rfl).alloc _).below hbx (by first | omega | (simp; omega) | (simp; done)); have g2 : Blk W1 (w.heap.size + 1) #[.slice m.wa m.when_.length m.wc, .int .i64 m.kinds, .int .i64 m.rank, .slice m.ua m.unless_.length m.uc, .int .i64 m.says] 82 := (Blk.at_ (by simp)).below hbx (by first | omega | (simp; omega) | (simp; done)); (have s0 := g1.cell 0; have s1 := g1.cell 1; have s2 := g1.cell 2; have s3 := g1.cell 3; have s4 := g1.cell 4; simp at s0 s1 s2 s3 s4); (have t0 := g2.cell 0; have t1 := g2.cell 1; have t2 := g2.cell 2; have t3 := g2.cell 3; have t4 := g2.cell 4; simp at t0 t1 t2 t3 t4)) |
    (have _ := hw3; go_at_call 17; refine (HOWN.out _ hw3).mono ?_; rintro _ W4 ⟨q, rfl, hpl, hm4, -, hb4⟩; have T0 := dbl_of hpl hm4; rw [T0.scv]; refine Hid.out ?_) |
    (go_at_call 17; refine (HOWN.out _ hw1).mono ?_; rintro _ W2 ⟨s', rfl, hpl, hm', -, hbo⟩; have HPL := Lib.hid hpl; have HR' := Lib.hid hm'.reads; clear hpl hm'; have hw2 := bl2 hw1 hbo; have g1 := g1.below hbo g1.lt; have g2 := g2.below hbo g2.lt) |
    (go_at_call 36; refine (chk_yes HV.out HPL.out _ HR'.out).mono ?_; rintro _ W3 ⟨rfl, hbc⟩; have hw3 := bl2 hw2 hbc; have g1 := g1.below hbc g1.lt; have g2 := g2.below hbc g2.lt; (have s0 := g1.cell 0; have s1 := g1.cell 1; have s2 := g1.cell 2; have s3 := g1.cell 3; have s4 := g1.cell 4; simp at s0 s1 s2 s3 s4); (have t0 := g2.cell 0; have t1 := g2.cell 1; have t2 := g2.cell 2; have t3 := g2.cell 3; have t4 := g2.cell 4; simp at t0 t1 t2 t3 t4)))
  obtain ⟨A, hA⟩ : ∃ A, A = q.ra := ⟨_, rfl⟩
  obtain ⟨c, hc⟩ : ∃ c, c = q.rc := ⟨_, rfl⟩
  obtain ⟨base, hbase⟩ : ∃ b, b = W3.heap.size := ⟨_, rfl⟩
  rw [← hA, ← hc, ← hbase] at T0
  rw [← hA, ← hc]
  have hwb : w.heap.size + 1 < base := by rw [hbase]; exact g2.lt
  clear hA hc hpl hm4 s0 s1 s2 s3 s4 t0 t1 t2 t3 t4 d1 d1' d2 d2' d3 d3' e1 e2 e3 e4 e5 e6
  refine Lib.hid ?_
  go_wp2_with fail
  obtain ⟨b7, hb7⟩ : ∃ b, b = W4.heap.size := ⟨_, rfl⟩
  rw [← hb7]
  refine gen_w (fun W => Below w.heap.size w W ∧ Blk W w.heap.size #[.int .i64 s.places, .int .i64 s.signs, .int .i64 s.kinds, .int .i64 s.answers, s.rv] 24 ∧ Blk W (w.heap.size + 1) #[.slice m.wa m.when_.length m.wc, .int .i64 m.kinds, .int .i64 m.rank, .slice m.ua m.unless_.length m.uc, .int .i64 m.says] 82 ∧ Blk W b7 #[.int .i64 s.places, .int .i64 s.signs, .int .i64 s.kinds, .int .i64 s.answers, .slice A s.rules.length c] 24 ∧ Dbl s A c base 0 W q ∧ base ≤ b7) ⟨bla (bl2 hw3 hb4), (g1.below hb4 g1.lt).alloc _, (g2.below hb4 g2.lt).alloc _, Blk.at_ hb7, T0.below ((Below.refl _ _).alloc (Nat.le_refl _) _), by rw [hbase, hb7]; exact hb4.size⟩ ?_
  clear g1 g2 T0 hb4 hw3 hbc hw2 hbo hw1 hbx hb7 hbase HR' HPL
  rintro W5 ⟨hw5, g1, g2, g7, T0, hb7⟩
  have HD0 := Lib.hid T0; have G7 := Lib.hid g7
  have g1b := g1; have g2b := g2
  clear T0 g7 g1 g2
  go_loopw [8, 9, 10] (fun v8 v9 i wr => ∃ (j : Nat) (q : Sch), j ≤ s.rules.length ∧ i = .int .i64 j ∧ v8 = .int .i64 (leastT s j) ∧ v9 = .bool (farT s j) ∧ Hid (Below base W5 wr) ∧ Hid (Blk wr b7 #[.int .i64 s.places, .int .i64 s.signs, .int .i64 s.kinds, .int .i64 s.answers, .slice A s.rules.length c] 24) ∧ Hid (Dbl s A c base j wr q)) (fun _ _ i _ => s.rules.length - (intOf i).toNat)
  case atStart => exact ⟨0, q, by omega, rfl, rfl, rfl, Below.refl _ _, G7, HD0⟩
  case round =>
    obtain ⟨j, q, hj, rfl, rfl, rfl, hb, G7, HD⟩ := hrel
    have g7 := G7.out
    have x0 := g7.cell 0; have x1 := g7.cell 1; have x2 := g7.cell 2; have x3 := g7.cell 3; have x4 := g7.cell 4
    simp at x0 x1 x2 x3 x4
    by_cases hlt : j < s.rules.length
    · obtain ⟨g, q', rfl, hgb, ⟨gc, gR⟩, f0, z0, HD'⟩ := HD.out.put hlt
      have hrb := rnk_bd HVA.out hlt
      rw [← rnk_at hlt] at z0 HD'
      have n7 : g ≠ b7 := blk_ne gR g7 (by decide)
      have HL : Hid (leastT s (j + 1) = if leastT s j ≤ rnk s j then leastT s j else rnk s j) := Lib.hid rfl
      have HF : Hid (farT s (j + 1) = ((farT s j || decide (50 < rnk s j)) || decide (rnk s j < -50))) := Lib.hid rfl
      have hlb := least_bd HVA.out j (by omega)
      obtain ⟨r, hr⟩ : ∃ r, r = rnk s j := ⟨_, rfl⟩
      obtain ⟨lo, hlo⟩ : ∃ l, l = leastT s j := ⟨_, rfl⟩
      obtain ⟨f, hf⟩ : ∃ f, f = farT s j := ⟨_, rfl⟩
      rw [← hr] at z0 HD' HL HF hrb
      rw [← hlo] at HL hlb ⊢
      rw [← hf] at HF ⊢
      obtain ⟨r1, r2⟩ := hrb
      have hj0 : (0 : Int) ≤ (j : Int) := by omega
      have hj1 : (j : Int) < (s.rules.length : Int) := by omega
      have hm : IntKind.i64.wrap (2 * r) = 2 * r := IntWalk.i64_in _ ⟨by omega, by omega⟩
      have HD2 := Lib.hid HD'
      clear HD' hr hlo hf HD gR
      obtain ⟨a, ha⟩ : ∃ a, decide (50 < r) = a := ⟨_, rfl⟩
      obtain ⟨b, hb'⟩ : ∃ b, decide (r < -50) = b := ⟨_, rfl⟩
      cases f <;> cases a
      all_goals (
        go_wp2_with fail
        all_goals (
          go_region
          all_goals (
            go_wp2_with fail
            go_roundw
            case rel => exact ⟨j + 1, q', by omega, by go_num, (by rw [HL.out]; first | rw [if_pos (by omega)] | rw [if_neg (by omega)]), (by rw [HF.out]; first | rfl | (rw [ha]; rfl) | (rw [ha, hb']; rfl)), Below.drew (hb.out.setCell (p := ⟨g, j * 5 + 2, none⟩) (by show base ≤ g; omega) _), G7.out.far ⟨g, j * 5 + 2, none⟩ (by show b7 ≠ g; exact Ne.symm n7) _, HD2.out.below (Below.drew (Below.refl _ _))⟩
            case measure => simp [intOf] <;> omega)))
    · obtain rfl : j = s.rules.length := by omega
      have hw6 : Below w.heap.size w wr := hw5.trans (hb.out.mono (by omega))
      have g1 := g1b.below hb.out (by omega); have g2 := g2b.below hb.out (by omega)
      obtain ⟨L, hL⟩ : ∃ L, L = leastT s s.rules.length := ⟨_, rfl⟩
      obtain ⟨f, hf⟩ : ∃ f, f = farT s s.rules.length := ⟨_, rfl⟩
      have HLL := Lib.hid hL; have HFF := Lib.hid hf
      rw [← hL, ← hf]
      have HQP : Hid (q.pl = s.dbl.pl) := (by rw [HD.out.pl, plD_all] : q.pl = s.dbl.pl)
      have HOQ := Lib.hid (own_q HD.out.m HD.out.scv)
      have hz7 := g7.lt
      (have s0 := g1.cell 0; have s1 := g1.cell 1; have s2 := g1.cell 2; have s3 := g1.cell 3; have s4 := g1.cell 4; simp at s0 s1 s2 s3 s4)
      clear hL hf HD hlt hj hb G7 x0 x1 x2 x3 x4 s0 s1 s2 s3 s4
      rename World => W6
      have g1r := g1; have g7r := g7; have g2r := g2
      (have x0 := g7.cell 0; have x1 := g7.cell 1; have x2 := g7.cell 2; have x3 := g7.cell 3; have x4 := g7.cell 4; simp at x0 x1 x2 x3 x4)
      go_upto_block 2 with fail
      clear x0 x1 x2 x3 x4 s0 s1 s2 s3 s4
      go_cut [11] (fun _ wx => Hid (Below W6.heap.size W6 wx))
      case first =>
        --D< loop2
        go_wp2_with fail
        go_loopw [11] (fun i wr' => ∃ k : Nat, (k : Int) ≤ s.kinds ∧ i = .int .i64 k ∧ Below W6.heap.size W6 wr') (fun i _ => (s.kinds - intOf i).toNat)
        case atStart => exact ⟨0, by omega, rfl, Below.refl _ _⟩
        case round =>
          obtain ⟨k, hk, rfl, hb6⟩ := hrel
          have hwr : Below w.heap.size w wr := bl2 hw6 hb6
          have g1 := g1r.below hb6 g1r.lt; have g7 := g7r.below hb6 g7r.lt
          (have s0 := g1.cell 0; have s1 := g1.cell 1; have s2 := g1.cell 2; have s3 := g1.cell 3; have s4 := g1.cell 4; simp at s0 s1 s2 s3 s4)
          (have x0 := g7.cell 0; have x1 := g7.cell 1; have x2 := g7.cell 2; have x3 := g7.cell 3; have x4 := g7.cell 4; simp at x0 x1 x2 x3 x4)
          by_cases hlt : (k : Int) < s.kinds
          · have dk : decide ((k : Int) < s.kinds) = true := by simpa using hlt
            cases f with
            | true =>
              go_wp2_with fail
              go_meet
              exact hb6
            | false =>
              go_wp2_with fail
              go_region_held (fun W' => W'.cell? ⟨w.heap.size, 0, none⟩ = some (.int .i64 s.places) ∧ W'.cell? ⟨w.heap.size, 1, none⟩ = some (.int .i64 s.signs) ∧ W'.cell? ⟨w.heap.size, 2, none⟩ = some (.int .i64 s.kinds) ∧ W'.cell? ⟨w.heap.size, 3, none⟩ = some (.int .i64 s.answers) ∧ W'.cell? ⟨w.heap.size, 4, none⟩ = some s.rv ∧ W'.cell? ⟨b7, 0, none⟩ = some (.int .i64 s.places) ∧ W'.cell? ⟨b7, 1, none⟩ = some (.int .i64 s.signs) ∧ W'.cell? ⟨b7, 2, none⟩ = some (.int .i64 s.kinds) ∧ W'.cell? ⟨b7, 3, none⟩ = some (.int .i64 s.answers) ∧ W'.cell? ⟨b7, 4, none⟩ = some (.slice A s.rules.length c)) (exact ⟨s0, s1, s2, s3, s4, x0, x1, x2, x3, x4⟩)
                (first | (have _ := hv1; go_at_call 17; refine (HOQ.out _ hv1).mono ?_; rintro _ V2 ⟨qq, rfl, hpl, hm2, -, hbq⟩; have HPQ : Hid (qq.pl = s.dbl.pl) := (by rw [hpl]; exact HQP.out : qq.pl = s.dbl.pl); have HMQ := Lib.hid hm2.reads; clear hpl hm2; have h12 := hbq; have hv2 := bl2 hv1 hbq; have g1 := g1r.below hv2 g1r.lt; have g7 := g7r.below hv2 g7r.lt; (have s0 := g1.cell 0; have s1 := g1.cell 1; have s2 := g1.cell 2; have s3 := g1.cell 3; have s4 := g1.cell 4; simp at s0 s1 s2 s3 s4); (have x0 := g7.cell 0; have x1 := g7.cell 1; have x2 := g7.cell 2; have x3 := g7.cell 3; have x4 := g7.cell 4; simp at x0 x1 x2 x3 x4)) |
                 (go_at_call 17; refine (HOWN.out _ (bl2 hwr (by (repeat (first | exact Below.refl _ _ | assumption | (refine Below.alloc ?_ (by first | omega | (simp; omega) | (simp; done)) _) | (refine Below.setCell ?_ (by first | omega | (simp; omega) | (simp; done)) _) | (refine Below.drew ?_) | (refine belowN ?_ _) | (refine Below.trans ?_ (Below.mono ‹Below _ _ _› (by first | omega | (simp; omega) | (simp; done))))))))).mono ?_; rintro _ V1 ⟨s', rfl, hpl, hm1, -, hbq⟩; have HPS := Lib.hid hpl; have HMS := Lib.hid hm1.reads; clear hpl hm1; have hv1 : Below W6.heap.size W6 V1 := Below.trans (by (repeat (first | exact Below.refl _ _ | assumption | (refine Below.alloc ?_ (by first | omega | (simp; omega) | (simp; done)) _) | (refine Below.setCell ?_ (by first | omega | (simp; omega) | (simp; done)) _) | (refine Below.drew ?_) | (refine belowN ?_ _) | (refine Below.trans ?_ (Below.mono ‹Below _ _ _› (by first | omega | (simp; omega) | (simp; done))))))) (hbq.mono (by have := hb6.size; simp; omega)); have g1 := g1r.below hv1 g1r.lt; have g7 := g7r.below hv1 g7r.lt; (have s0 := g1.cell 0; have s1 := g1.cell 1; have s2 := g1.cell 2; have s3 := g1.cell 3; have s4 := g1.cell 4; simp at s0 s1 s2 s3 s4); (have x0 := g7.cell 0; have x1 := g7.cell 1; have x2 := g7.cell 2; have x3 := g7.cell 3; have x4 := g7.cell 4; simp at x0 x1 x2 x3 x4)) |
                 (go_at_call 34; refine (df_any HV.out HVA.out HFF.out.symm hlt HPS.out HPQ.out HMS.out h12 HMQ.out (Below.refl _ _)).mono ?_; rintro _ V3 ⟨rfl, hbq⟩; have hv3 := bl2 hv2 hbq; have g1 := g1r.below hv3 g1r.lt; have g7 := g7r.below hv3 g7r.lt; (have s0 := g1.cell 0; have s1 := g1.cell 1; have s2 := g1.cell 2; have s3 := g1.cell 3; have s4 := g1.cell 4; simp at s0 s1 s2 s3 s4); (have x0 := g7.cell 0; have x1 := g7.cell 1; have x2 := g7.cell 2; have x3 := g7.cell 3; have x4 := g7.cell 4; simp at x0 x1 x2 x3 x4)))
              all_goals (
                go_wp2_with fail
                go_roundw
                case rel => exact ⟨k + 1, by omega, by go_num, hv3⟩
                case measure => simp [intOf] <;> omega)
          · have dk : decide ((k : Int) < s.kinds) = false := by simpa using hlt
            go_wp2_with fail
            go_meet
            exact hb6
        --D>
      case rest =>
        rename World => W7
        have hw7 := bl2 hw6 hcut.out
        have g1 := g1r.below hcut.out g1r.lt; have g2 := g2r.below hcut.out g2r.lt
        clear g1b g2b g1r g7r g2r g7 HOQ HQP HD0 hz7 hw6 hcut HFF
        (have s0 := g1.cell 0; have s1 := g1.cell 1; have s2 := g1.cell 2; have s3 := g1.cell 3; have s4 := g1.cell 4; simp at s0 s1 s2 s3 s4)
        go_upto_region 19 with (go_at_call 17; refine (HOWN.out _ hw7).mono ?_; rintro _ V8 ⟨q2, rfl, hpl2, hm2, -, hb8⟩; have T2 := dbl_of hpl2 hm2; have E2 := T2.scv; rw [← T2.len] at E2; rw [E2]; have HQL := Lib.hid T2.len; clear E2 T2; refine Hid.out ?_)
        have hw8 := bl2 hw7 hb8
        obtain ⟨base2, hbase2⟩ : ∃ b, b = W7.heap.size := ⟨_, rfl⟩
        rw [← hbase2] at hm2
        have h2b : w.heap.size + 1 < base2 := by rw [hbase2]; exact g2.lt
        refine Lib.hid ?_
        go_upto_region 19 with fail
        obtain ⟨b14, hb14⟩ : ∃ b, b = V8.heap.size := ⟨_, rfl⟩
        have h14 : base2 ≤ b14 := by rw [hbase2, hb14]; exact hb8.size
        rw [← hb14]
        refine gen_w (fun W => Below w.heap.size w W ∧ Blk W w.heap.size #[.int .i64 s.places, .int .i64 s.signs, .int .i64 s.kinds, .int .i64 s.answers, s.rv] 24 ∧ Blk W (w.heap.size + 1) #[.slice m.wa m.when_.length m.wc, .int .i64 m.kinds, .int .i64 m.rank, .slice m.ua m.unless_.length m.uc, .int .i64 m.says] 82 ∧ Blk W b14 #[.int .i64 s.places, .int .i64 s.signs, .int .i64 s.kinds, .int .i64 s.answers, .slice q2.ra q2.rules.length q2.rc] 24 ∧ MSch base2 W q2 ∧ b14 < W.heap.size) ⟨bla hw8, (g1.below hb8 g1.lt).alloc _, (g2.below hb8 g2.lt).alloc _, Blk.at_ hb14, hm2.below ((Below.refl _ _).alloc (Nat.le_refl _) _), by simp [hb14]⟩ ?_
        have HPL2 := Lib.hid hpl2
        clear g1 g2 hw8 hb8 hw7 hbase2 hb14 hm2 s0 s1 s2 s3 s4 hpl2
        rintro W8 ⟨hw8, g1, g2, g14, hm2, hz14⟩
        (have t0 := g2.cell 0; have t1 := g2.cell 1; have t2 := g2.cell 2; have t3 := g2.cell 3; have t4 := g2.cell 4; simp at t0 t1 t2 t3 t4)
        have x4 := g14.cell 4
        simp at x4
        have HM2 := Lib.hid hm2
        have hLb : -100 ≤ L ∧ L ≤ 100 := by rw [HLL.out]; exact least_bd HVA.out _ (Nat.le_refl _)
        have vL : IntKind.i64.wrap (L - 1) = L - 1 := IntWalk.i64_in _ ⟨by omega, by omega⟩
        have HT := fun W (hW : Below W8.heap.size W8 W) => Lib.hid (ltests_any m.wa m.wc m.when_ W (by omega) HM0.out.1 (oneCell_tests _ HMW.out.2.2) ((HMW.out.1.below (hw8.trans (hW.mono hw8.size))).more (by have := hw8.size; have := hW.size; omega)))
        obtain ⟨i1, hi1, iy0, iy1, iy2⟩ := info_parts infoRule
        have hql2 : q2.rules.length ≤ 29 := by rw [HQL.out]; omega
        have hnb : some (w.heap.size + 1) ≠ (Value.slice q2.ra q2.rules.length q2.rc).ownBlock := fun e => by have := own_ge hm2.row e.symm; omega
        have hnb0 : some w.heap.size ≠ (Value.slice q2.ra q2.rules.length q2.rc).ownBlock := fun e => by have := own_ge hm2.row e.symm; omega
        have hnb14 : some b14 ≠ (Value.slice q2.ra q2.rules.length q2.rc).ownBlock := own_ne_blk hm2.row g14 (by decide)
        go_cut [166] (fun _ wx => ∃ (gg cap : Nat) (q9 : Sch), Hid (Below w.heap.size w wx) ∧ Hid (Blk wx w.heap.size #[.int .i64 s.places, .int .i64 s.signs, .int .i64 s.kinds, .int .i64 s.answers, s.rv] 24) ∧ Hid (Blk wx b14 #[.int .i64 s.places, .int .i64 s.signs, .int .i64 s.kinds, .int .i64 s.answers, .slice (some ⟨gg, 0, none⟩) (s.rules.length + 1) cap] 24) ∧ Hid (Wide s (moreR m L) (some ⟨gg, 0, none⟩) cap base2 wx q9))
        case first =>
          --D< r19
          refine wp_region_noPanic ?_
          refine wp_region_T (S := fun w' => w'.cell? ⟨w.heap.size + 1, 0, none⟩ = some (.slice m.wa m.when_.length m.wc) ∧ w'.cell? ⟨w.heap.size + 1, 1, none⟩ = some (.int .i64 m.kinds) ∧ w'.cell? ⟨w.heap.size + 1, 4, none⟩ = some (.int .i64 m.says) ∧ w'.cell? ⟨b14, 4, none⟩ = some (.slice q2.ra q2.rules.length q2.rc)) 15 (by kernel_rfl) (by kernel_rfl) (by kernel_rfl) (by kernel_rfl) (by decide) ⟨t0, t1, t4, x4⟩ (fun hHeld => ?_)
          refine WT.takeD (i := 0) (d := some 153) (v := ?vv0) rfl rfl (by decide) (by kernel_rfl) (by kernel_rfl) (fun _ _ _ h => h) (Or.inl ⟨by rfl, ?hy0⟩) (by assumption) ?rest0
          case hy0 => (intro w hSw; (try dsimp only at hSw); go_simp; (try with_reducible rfl))
          try simp only [Act.put, List.setIfInBounds_toArray, List.set_cons_zero, List.set_cons_succ]
          refine WT.takeD (i := 1) (d := some 154) (v := ?vv1) rfl rfl (by decide) (by kernel_rfl) (by kernel_rfl) (fun _ _ _ h => h) (Or.inl ⟨by rfl, ?hy1⟩) (by assumption) ?rest1
          case hy1 => (intro w hSw; (try dsimp only at hSw); go_simp; (try with_reducible rfl))
          try simp only [Act.put, List.setIfInBounds_toArray, List.set_cons_zero, List.set_cons_succ]
          refine WT.takeD (i := 2) (d := some 155) (v := ?vv2) rfl rfl (by decide) (by kernel_rfl) (by kernel_rfl) (fun _ _ _ h => h) (Or.inl ⟨by rfl, ?hy2⟩) (by assumption) ?rest2
          case hy2 => (intro w hSw; (try dsimp only at hSw); go_simp; (try with_reducible rfl))
          try simp only [Act.put, List.setIfInBounds_toArray, List.set_cons_zero, List.set_cons_succ]
          refine WT.takeD (i := 3) (d := some 156) (v := ?vv3) rfl rfl (by decide) (by kernel_rfl) (by kernel_rfl) (fun _ _ _ h => h) (Or.inl ⟨by rfl, ?hy3⟩) (by assumption) ?rest3
          case hy3 => (intro w hSw; (try dsimp only at hSw); go_simp; (try with_reducible rfl))
          try simp only [Act.put, List.setIfInBounds_toArray, List.set_cons_zero, List.set_cons_succ]
          refine WT.takeD (i := 5) (d := some 158) (v := ?vv5) rfl rfl (by decide) (by kernel_rfl) (by kernel_rfl) (fun _ _ _ h => h) (Or.inl ⟨by rfl, ?hy5⟩) (by assumption) ?rest5
          case hy5 => (intro w hSw; (try dsimp only at hSw); go_simp; (try with_reducible rfl))
          try simp only [Act.put, List.setIfInBounds_toArray, List.set_cons_zero, List.set_cons_succ]
          refine WT.takeD (i := 6) (d := some 159) (v := ?vv6) rfl rfl (by decide) (by kernel_rfl) (by kernel_rfl) (fun _ _ _ h => h) (Or.inl ⟨by rfl, ?hy6⟩) (by assumption) ?rest6
          case hy6 => (intro w hSw; (try dsimp only at hSw); go_simp; (try with_reducible rfl))
          try simp only [Act.put, List.setIfInBounds_toArray, List.set_cons_zero, List.set_cons_succ]
          refine WT.takeD (i := 7) (d := some 160) (v := ?vv7) rfl rfl (by decide) (by kernel_rfl) (by kernel_rfl) (fun _ _ _ h => h) (Or.inl ⟨by rfl, ?hy7⟩) (by assumption) ?rest7
          case hy7 => (intro w hSw; (try dsimp only at hSw); go_simp; (try with_reducible rfl))
          try simp only [Act.put, List.setIfInBounds_toArray, List.set_cons_zero, List.set_cons_succ]
          refine WT.takeD (i := 8) (d := some 161) (v := ?vv8) rfl rfl (by decide) (by kernel_rfl) (by kernel_rfl) (fun _ _ _ h => h) (Or.inl ⟨by rfl, ?hy8⟩) (by assumption) ?rest8
          case hy8 => (intro w hSw; (try dsimp only at hSw); go_simp; (try with_reducible rfl))
          try simp only [Act.put, List.setIfInBounds_toArray, List.set_cons_zero, List.set_cons_succ]
          refine WT.takeD (i := 9) (d := some 162) (v := ?vv9) rfl rfl (by decide) (by kernel_rfl) (by kernel_rfl) (fun _ _ _ h => h) (Or.inl ⟨by rfl, ?hy9⟩) (by assumption) ?rest9
          case hy9 => (intro w hSw; (try dsimp only at hSw); go_simp; (try with_reducible rfl))
          try simp only [Act.put, List.setIfInBounds_toArray, List.set_cons_zero, List.set_cons_succ]
          refine WT.takeD (i := 10) (d := some 163) (v := ?vv10) rfl rfl (by decide) (by kernel_rfl) (by kernel_rfl) (fun _ _ _ h => h) (Or.inl ⟨by rfl, ?hy10⟩) (by assumption) ?rest10
          case hy10 => (intro w hSw; (try dsimp only at hSw); go_simp; (try with_reducible rfl))
          try simp only [Act.put, List.setIfInBounds_toArray, List.set_cons_zero, List.set_cons_succ]
          refine WT.one (i := 4) rfl (by decide) (by kernel_rfl) (fun K hK => ?_)
          go_simp
          go_wp2_with (go_at_call 37; refine ((HT _ (by (repeat (first | exact Below.refl _ _ | assumption | (refine Below.alloc ?_ (by first | omega | (simp; omega) | (simp; done)) _) | (refine Below.setCell ?_ (by first | omega | (simp; omega) | (simp; done)) _) | (refine Below.drew ?_) | (refine belowN ?_ _) | (refine Below.trans ?_ (Below.mono ‹Below _ _ _› (by first | omega | (simp; omega) | (simp; done)))))))).out).mono ?_; rintro e w1 ⟨v1, rfl, hown1, hb1⟩; obtain ⟨A1, k1, hv1⟩ : ∃ A c, v1 = .slice A m.when_.length c := (by obtain ⟨A, c, h, _⟩ := Sl.of_own hown1; exact ⟨A, c, h⟩); subst hv1; have hyc : Below W8.heap.size W8 w1 := Below.trans (by (repeat (first | exact Below.refl _ _ | assumption | (refine Below.alloc ?_ (by first | omega | (simp; omega) | (simp; done)) _) | (refine Below.setCell ?_ (by first | omega | (simp; omega) | (simp; done)) _) | (refine Below.drew ?_) | (refine belowN ?_ _) | (refine Below.trans ?_ (Below.mono ‹Below _ _ _› (by first | omega | (simp; omega) | (simp; done))))))) (hb1.mono (by simp)))
          have g2 := g2.below hyc g2.lt; have g1 := g1.below hyc g1.lt; have g14 := g14.below hyc hz14
          (have t0 := g2.cell 0; have t1 := g2.cell 1; have t2 := g2.cell 2; have t3 := g2.cell 3; have t4 := g2.cell 4; simp at t0 t1 t2 t3 t4)
          have x4 := g14.cell 4
          simp at x4
          have HM3 := Lib.hid (HM2.out.below hyc)
          have HO1 := Lib.hid hown1
          have hzc := hyc.size
          clear hown1
          refine hK.out _ _ ⟨t0, t1, t4, x4⟩ (fun hHeld => ?_)
          clear hK K
          refine WT.takeD (i := 11) (d := some 164) (v := ?vv11) rfl rfl (by decide) (by kernel_rfl) (by kernel_rfl) (fun _ _ _ h => h) (Or.inl ⟨by rfl, ?hy11⟩) (by assumption) ?rest11
          case hy11 => (intro w hSw; (try dsimp only at hSw); go_simp; (try with_reducible rfl))
          try simp only [Act.put, List.setIfInBounds_toArray, List.set_cons_zero, List.set_cons_succ]
          refine WT.one (i := 12) rfl (by decide) (by kernel_rfl) (fun K hK => ?_)
          go_simp
          refine hK.out _ _ ⟨(World.cell?_alloc_lt _ _ _ (by first | omega | (simp; omega) | (simp; done))).trans t0, (World.cell?_alloc_lt _ _ _ (by first | omega | (simp; omega) | (simp; done))).trans t1, (World.cell?_alloc_lt _ _ _ (by first | omega | (simp; omega) | (simp; done))).trans t4, (World.cell?_alloc_lt _ _ _ (by first | omega | (simp; omega) | (simp; done))).trans x4⟩ (fun hHeld => ?_)
          clear hK K
          refine WT.one (i := 13) rfl (by decide) (by kernel_rfl) (fun K hK => ?_)
          refine step_append_lies _ (by rfl) _ _ _ (by rfl) base2 82 i1 (.agg #[.slice none 0 0, .int .i64 0, .int .i64 0, .slice none 0 0, .int .i64 0]) 5 72 uRules hi1 iy0 iy1 iy2 rfl (by omega) _ _ _ (by rfl) (HM3.out.row.alloc _) ⟨w1.heap.size, 0, none⟩ 1 1 [.slice A1 m.when_.length k1, .int .i64 m.kinds, .int .i64 (L - 1), .slice none 0 0, .int .i64 m.says] (by rfl) (by rfl) (World.news_of_block (cs := #[.slice A1 m.when_.length k1, .int .i64 m.kinds, .int .i64 (L - 1), .slice none 0 0, .int .i64 m.says]) (t := 82) (fr := (0, 0)) (heap_alloc_new w1 _)) (by simp [Value.oneCell']) (by omega) (by unfold maxLen; omega) (by omega) (by simp; omega) (w1.heap.size + 1) (by simp) ?_
          intro gg cap w5 hown5 hgrow hat hgl
          have g25 := (g2.alloc (.cells #[.slice A1 m.when_.length k1, .int .i64 m.kinds, .int .i64 (L - 1), .slice none 0 0, .int .i64 m.says] 82)).grown hgrow hnb
          have g15 := (g1.alloc (.cells #[.slice A1 m.when_.length k1, .int .i64 m.kinds, .int .i64 (L - 1), .slice none 0 0, .int .i64 m.says] 82)).grown hgrow hnb0
          have g145 := (g14.alloc (.cells #[.slice A1 m.when_.length k1, .int .i64 m.kinds, .int .i64 (L - 1), .slice none 0 0, .int .i64 m.says] 82)).grown hgrow hnb14
          have f4 := g145.free 4
          have x45 := g145.cell 4
          have t05 := g25.cell 0; have t15 := g25.cell 1; have t45 := g25.cell 4
          simp at x45 t05 t15 t45
          refine hK.out _ _ ⟨t05, t15, t45, x45⟩ (fun hHeld => ?_)
          clear hK K
          refine WT.takeD (i := 14) (d := some 167) (v := ?vv14) rfl rfl (by decide) (by kernel_rfl) (by kernel_rfl) (fun _ _ _ h => h) (Or.inl ⟨by rfl, ?hy14⟩) (by assumption) ?rest14
          case hy14 => (intro w hSw; (try dsimp only at hSw); go_simp; (try with_reducible rfl))
          try simp only [Act.put, List.setIfInBounds_toArray, List.set_cons_zero, List.set_cons_succ]
          refine WT.last rfl (by kernel_rfl) (by kernel_rfl) (fun K hK => ?_)
          go_simp
          refine hK.out _ _ (NoPanic.normal ?_)
          clear hK K
          have hR1 : RowsOf (w1.alloc (.cells #[.slice A1 m.when_.length k1, .int .i64 m.kinds, .int .i64 (L - 1), .slice none 0 0, .int .i64 m.says] 82)) ⟨A1, k1, m.when_, m.kinds, L - 1, none, 0, [], m.says⟩ := ⟨(own_mono HO1.out).alloc _, World.ownsRow_nil _ _ _ _, (by show m.when_.length ≤ 1000000; omega), (by show ([] : List Int).length ≤ 1000000; simp), HMW.out.2.2⟩
          have HR1 := Lib.hid hR1
          have HMA := Lib.hid ((HM3.out.below ((Below.refl _ _).alloc (Nat.le_refl _) (.cells #[.slice A1 m.when_.length k1, .int .i64 m.kinds, .int .i64 (L - 1), .slice none 0 0, .int .i64 m.says] 82))).app hown5 hgrow HR1.out (by omega))
          have HWD := Lib.hid ((wide_of (L := L) HPL2.out (HMA.out.putS ⟨_, g145⟩ (by decide) (by decide) (by decide) 4 (.slice (some ⟨gg, 0, none⟩) (q2.rules.length + 1) cap))))
          have hw9 := Lib.hid (((hw8.trans (hyc.mono hw8.size)).alloc (by have := hw8.size; omega) (.cells #[.slice A1 m.when_.length k1, .int .i64 m.kinds, .int .i64 (L - 1), .slice none 0 0, .int .i64 m.says] 82)).grown hgrow (by simp; have := hw8.size; omega) (fun g hg => by have := own_ge HM3.out.row hg; omega) |>.setCell (p := ⟨b14, 4, none⟩) (by show w.heap.size ≤ b14; omega) (.slice (some ⟨gg, 0, none⟩) (q2.rules.length + 1) cap))
          have g19 := g15.far ⟨b14, 4, none⟩ (by show w.heap.size ≠ b14; omega) (.slice (some ⟨gg, 0, none⟩) (q2.rules.length + 1) cap)
          have g149 : Blk (w5.setCell ⟨b14, 4, none⟩ (.slice (some ⟨gg, 0, none⟩) (q2.rules.length + 1) cap)) b14 #[.int .i64 s.places, .int .i64 s.signs, .int .i64 s.kinds, .int .i64 s.answers, .slice (some ⟨gg, 0, none⟩) (q2.rules.length + 1) cap] 24 := by have h := g145.set 4 (.slice (some ⟨gg, 0, none⟩) (q2.rules.length + 1) cap); simpa using h
          obtain ⟨q9, hq9⟩ : ∃ q : Sch, q = { q2 with ra := some ⟨gg, 0, none⟩, rc := cap, rules := q2.rules ++ [⟨A1, k1, m.when_, m.kinds, L - 1, none, 0, [], m.says⟩] } := ⟨_, rfl⟩
          rw [← hq9] at HWD
          go_wp2_with fail
          go_meet
          exact ⟨gg, cap, q9, hw9, g19, by rw [← HQL.out]; exact g149, HWD⟩
          --D>
        case rest =>
          obtain ⟨gg, cap, q9, HW9, G1, G14, HWD⟩ := hcut
          rename World => W9
          clear HM2 HT hnb hnb0 hnb14 g14 g2 t0 t1 t2 t3 t4 x4 HPL2 HQL hm2 g1 hql2
          have HSW := HWD.out.scv
          have g1 := G1.out; have g14 := G14.out
          (have s0 := g1.cell 0; have s1 := g1.cell 1; have s2 := g1.cell 2; have s3 := g1.cell 3; have s4 := g1.cell 4; simp at s0 s1 s2 s3 s4)
          have x0 := g14.cell 0; have x1 := g14.cell 1; have x2 := g14.cell 2; have x3 := g14.cell 3; have x4 := g14.cell 4
          simp at x0 x1 x2 x3 x4
          have HOW := Lib.hid (own_q HWD.out.m HSW)
          have HPW := Lib.hid HWD.out.pl
          obtain ⟨vw, hvw⟩ : ∃ v, v = schB (s.wide (moreR m L)) := ⟨_, rfl⟩
          have HVW := Lib.hid hvw
          clear hvw HSW HWD G1 G14
          cases vw with
          | false =>
            have ne : (errB false != 0) = true := by decide
            go_wp2_with (first | (go_at_call 17; refine (HOW.out _ (Below.refl _ _)).mono ?_; rintro _ Wa ⟨qa, rfl, hpla, hma, -, hba⟩; have HPA := Lib.hid hpla; have HRA := Lib.hid hma.reads; clear hpla hma) | (go_at_call 36; refine (chk_yes HVW.out.symm (HPA.out.trans HPW.out) _ HRA.out).mono ?_; rintro _ Wb ⟨rfl, hbb⟩) | (go_at_call 15; refine (known_any _).mono ?_; rintro _ Wk ⟨rfl, hbk'⟩))
            go_ret
            exact ⟨rfl, bl2 (bl2 (bl2 HW9.out hba) hbb) hbk'⟩
          | true =>
            have ne : (errB true != 0) = false := by decide
            go_upto_region 22 with (first | (go_at_call 17; refine (HOW.out _ (Below.refl _ _)).mono ?_; rintro _ Wa ⟨qa, rfl, hpla, hma, -, hba⟩; have HPA := Lib.hid hpla; have HRA := Lib.hid hma.reads; clear hpla hma) | (go_at_call 36; refine (chk_yes HVW.out.symm (HPA.out.trans HPW.out) _ HRA.out).mono ?_; rintro _ Wb ⟨rfl, hbb⟩))
            have hab := bl2 hba hbb
            have hwb := bl2 HW9.out hab
            have g1 := g1.below hab g1.lt; have g14 := g14.below hab g14.lt
            have HOW2 : Hid (∀ W, Below Wb.heap.size Wb W → Calls Try.prog 17 #[.agg #[.int .i64 s.places, .int .i64 s.signs, .int .i64 s.kinds, .int .i64 s.answers, .slice (some ⟨gg, 0, none⟩) (s.rules.length + 1) cap]] W (RetOwnN q9 W)) := (fun W hW => HOW.out W (bl2 hab hW) : ∀ W, _)
            clear HPA HRA hba hbb hab HW9 HOW ne s0 s1 s2 s3 s4 x0 x1 x2 x3 x4
            clear hi1 iy0 iy1 iy2
            clear i1
            go_wp2_with fail
            obtain ⟨b15, hb15⟩ : ∃ b, b = Wb.heap.size := ⟨_, rfl⟩
            have hown0 : (Wb.alloc (.cells #[] 63)).ownsRow Wb.heap.size 63 1 (.slice (some ⟨Wb.heap.size, 0, none⟩) 0 0) 0 [] := by
              have := World.ownsRow_made (e := 63) (size := 1) Wb #[] 0 (base := Wb.heap.size) (by simp) (by simp) (by simp)
              simpa using this
            have h15 : b14 < b15 := by rw [hb15]; exact g14.lt
            rw [← hb15] at hown0 ⊢
            refine gen_w (fun W => Below Wb.heap.size Wb W ∧ W.ownsRow b15 63 1 (.slice (some ⟨b15, 0, none⟩) 0 0) 0 [] ∧ b15 < W.heap.size) ⟨(Below.refl _ _).alloc (Nat.le_refl _) _, hown0, by simp [hb15]⟩ ?_
            clear hown0
            rintro w5 ⟨hb5, hown0, hz5⟩
            have HO0 := Lib.hid hown0
            have g1v := g1.below hb5 g1.lt; have g14v := g14.below hb5 g14.lt
            have hzb : Wb.heap.size ≤ b15 := by omega
            obtain ⟨i1, hi1, iy0, iy1, iy2⟩ := info_parts infoU64
            clear hown0 g1 g14 hb15
            go_loopw [15, 16] (fun v i wr => ∃ j : Nat, (j : Int) ≤ s.places ∧ i = .int .i64 j ∧ Hid (Below b15 w5 wr) ∧ Hid (wr.ownsRow b15 63 1 v j (flat setCell1 (fullL s j))) ∧ b15 < wr.heap.size) (fun _ i _ => (s.places - intOf i).toNat)
            case atStart => exact ⟨0, by omega, rfl, Below.refl _ _, HO0, hz5⟩
            case round =>
              obtain ⟨j, hj, rfl, hb, hown, hzr⟩ := hrel
              have g1 := g1v.below hb.out (by omega); have g14 := g14v.below hb.out (by omega)
              (have s0 := g1.cell 0; have s1 := g1.cell 1; have s2 := g1.cell 2; have s3 := g1.cell 3; have s4 := g1.cell 4; simp at s0 s1 s2 s3 s4)
              by_cases hlt : (j : Int) < s.places
              · --D< l3
                have dk : decide ((j : Int) < s.places) = true := by simpa using hlt
                obtain ⟨X, hX⟩ : ∃ X, X = (2 : Int) ^ s.signs.toNat - 1 := ⟨_, rfl⟩
                have HX := Lib.hid hX
                have z1 : IntKind.i64.wrap (64 - s.signs) = 64 - s.signs := IntWalk.i64_in _ ⟨by omega, by omega⟩
                have z2 : IntKind.u64.wrap (64 - s.signs) = 64 - s.signs := IntWalk.u64_in _ ⟨by omega, by omega⟩
                have z3 : (18446744073709551615 : Int) / 2 ^ (64 - s.signs).toNat = X := by rw [hX]; exact full_int HVA.out.signs.1 HVA.out.signs.2
                have z4 : min (64 - s.signs).toNat 64 = (64 - s.signs).toNat := by omega
                clear hX
                have HC5 : Hid (∀ (i : Nat) (u : Value), [Value.int .u64 X][i]? = some u → (wr.alloc (.cells #[.int .u64 X] 63)).cell? ((⟨wr.heap.size, 0, none⟩ : Addr).add i) = some u) := (fun i u hu => (by rw [Go.WideShapes.add_plain, Nat.zero_add, (Blk.new wr _ _).cell i, ← hu]; simp))
                go_wp2_with (at_builtin; refine wpList_append_own _ rfl _ _ 25 rfl b15 63 i1 (.int .u64 0) 1 8 uSets hi1 iy0 iy1 iy2 rfl (by decide) _ _ _ rfl (hown.out.alloc _) ⟨wr.heap.size, 0, none⟩ 1 1 [.int .u64 X] rfl rfl HC5.out (by simp [Value.oneCell']) (by unfold maxLen; omega) (by omega) (by simp; omega) ?_; intro v' w7 hown7 hgrow _)
                have hb7 : Below b15 w5 w7 := (hb.out.alloc (by omega) _).grown hgrow (by simp; omega) (fun g hg => own_ge hown.out hg)
                have hbz7 : wr.heap.size < w7.heap.size := by have := hgrow.size; simp at this; omega
                refine ⟨⟨j + 1, by omega, by go_num, hb7, ?_, by omega⟩, by simp [intOf]; omega⟩
                show World.ownsRow _ _ _ _ _ _ _
                rw [fullL_succ, ← HX.out]
                simpa [flat, setCell1] using hown7
                --D>
              · obtain ⟨pn, hpn⟩ : ∃ n, n = s.places.toNat := ⟨_, rfl⟩
                obtain rfl : j = pn := by omega
                have dk : decide ((j : Int) < s.places) = false := by simp; omega
                obtain ⟨A15, c15, hv15, hs15⟩ := Sl.of_own (f := setCell1) (l := fullL s j) (by have h := hown.out; rw [show (fullL s j).length = j from List.length_replicate]; exact h)
                rw [show (fullL s j).length = j from List.length_replicate] at hv15
                subst hv15
                have hwr5 := bl2 hwb (hb5.trans (hb.out.mono hzb))
                have hWb : Below Wb.heap.size Wb wr := hb5.trans (hb.out.mono hzb)
                have HCO := Lib.hid (by have h := chartOf_any A15 c15 (fullL s j) Bq bc bs wr hs15 (by rw [show (fullL s j).length = j from List.length_replicate]; have := HVA.out.places; omega) (fullL_u64 HVA.out j) ((HBY.out.below hwr5).more hwr5.size) HBV.out (by omega); rw [show (fullL s j).length = j from List.length_replicate] at h; exact h : Calls Try.prog 31 #[.slice A15 j c15, .slice Bq bs.length bc] wr (RetCh (fullL s j) wr))
                have HPN := Lib.hid hpn
                clear hs15 hown hpn hj hlt HO0 hb hb5 g1v g14v hwb hzb iy0 iy1 iy2 hi1
                clear i1
                go_upto_region 28 with (go_at_call 31; refine HCO.out.mono ?_; rintro _ V1 ⟨AC, cC, bb, ch, rfl, hsC, hy, hn, -, hbC⟩; refine Hid.out ?_)
                --D< aa
                obtain ⟨hbb, hch0, hcl, hcb⟩ := rk_chart HV.out HVA.out HPN.out hy hn
                subst hbb
                obtain ⟨n, hnn⟩ : ∃ n, n = ch.length := ⟨_, rfl⟩
                have hn1 : 0 < n ∧ n ≤ 1000000 := ⟨by rw [hnn]; exact hch0, by rw [hnn]; exact hcl⟩
                have HCN := Lib.hid hnn.symm; have HCB := Lib.hid hcb; have HSC := Lib.hid hsC
                rw [← hnn]
                have hwV := bl2 hwr5 hbC
                have g1v := g1.below hbC g1.lt; have g14v := g14.below hbC g14.lt
                have HOW3 : Hid (∀ W, Below V1.heap.size V1 W → Calls Try.prog 17 #[.agg #[.int .i64 s.places, .int .i64 s.signs, .int .i64 s.kinds, .int .i64 s.answers, .slice (some ⟨gg, 0, none⟩) (s.rules.length + 1) cap]] W (RetOwnN q9 W)) := (fun W hW => HOW2.out W (bl2 (bl2 hWb hbC) hW) : ∀ W, _)
                clear hy hn hnn hcb hsC hcl hch0 hbC hwr5 hWb HOW2 HCO g1 g14 s0 s1 s2 s3 s4 hzr h15 dk HPN hz14 h14 h2b hw8
                --D>
                --D< ee
                refine Lib.hid ?_
                go_wp2_with fail
                go_loopw [19, 20, 21, 22, 23] (fun i _ _ _ _ wr => ∃ k : Nat, (k : Int) ≤ s.kinds ∧ i = .int .i64 k ∧ Hid (Below V1.heap.size V1 wr)) (fun i _ _ _ _ _ => (s.kinds - intOf i).toNat)
                case atStart => exact ⟨0, by omega, rfl, Below.refl _ _⟩
                case round =>
                  obtain ⟨k, hk, rfl, hb⟩ := hrel
                  have hwr := bl2 hwV hb.out
                  have g1 := g1v.below hb.out g1v.lt; have g14 := g14v.below hb.out g14v.lt
                  (have s0 := g1.cell 0; have s1 := g1.cell 1; have s2 := g1.cell 2; have s3 := g1.cell 3; have s4 := g1.cell 4; simp at s0 s1 s2 s3 s4)
                  have x0 := g14.cell 0; have x1 := g14.cell 1; have x2 := g14.cell 2; have x3 := g14.cell 3; have x4 := g14.cell 4
                  simp at x0 x1 x2 x3 x4
                  by_cases hlt : (k : Int) < s.kinds
                  · have dk : decide ((k : Int) < s.kinds) = true := by simpa using hlt
                    obtain ⟨kd, kd', RQ, RM, RQ', RM', RF⟩ := rank_facts (m := m) HV.out HVA.out (by rw [← HLL.out]; exact HVW.out.symm) HCB.out hlt
                    rw [← HLL.out] at RF
                    have HRF := Lib.hid RF
                    clear RF
                    have HSC1 : Hid (Sl intCell 1 wr wr.heap.size AC ch) := ((HSC.out.below hb.out).more hb.out.size : Sl intCell 1 wr wr.heap.size AC ch)
                    --D< st1
                    go_upto_region 34 with (first | (go_at_call 17; refine (HOWN.out _ hwr).mono ?_; rintro _ U1 ⟨s', rfl, hpl, hm, -, hu1⟩; have HPL := Lib.hid hpl; have HR' := Lib.hid hm.reads; clear hpl hm) |
                      (go_at_call 38; refine (ints_rk ((HSC1.out.below hu1).more hu1.size) HCN.out hn1).mono ?_; rintro _ U2 ⟨A2, c2, rfl, hs2, hu2⟩; have HS2 := Lib.hid hs2; clear hs2) |
                      (go_at_call 33; refine (rdn_rk c2 HPL.out ((HR'.out.below hu2).more hu2.size) HS2.out HCN.out (by have := HCN.out; omega) HRF.out.r1).mono ?_; rintro _ U3 ⟨RA, ra, RB, rb, rfl, hoA, hoB, hu3⟩; have HOA := Lib.hid hoA; have HOB := Lib.hid hoB; clear hoA hoB))
                    obtain ⟨bA, hbA⟩ : ∃ b, b = U3.heap.size := ⟨_, rfl⟩
                    have hu13 := bl2 (bl2 hu1 hu2) hu3
                    rw [← hbA]
                    refine gen_w (fun W => Below wr.heap.size wr W ∧ Blk W bA #[.int .i64 kd, .slice RA RQ.length ra, .slice RB RM.length rb] 73 ∧ Sl intCell 1 W W.heap.size RA RQ ∧ Sl intCell 1 W W.heap.size RB RM) ⟨bla hu13, Blk.at_ hbA, own_sl (HOA.out.alloc _), own_sl (HOB.out.alloc _)⟩ ?_
                    clear HOA HOB hu1 hu2 hu3 hu13 hbA HS2 HPL HR' s0 s1 s2 s3 s4 x0 x1 x2 x3 x4
                    rintro V2 ⟨hv2, gA, slA, slB⟩
                    have g1 := g1.below hv2 g1.lt; have g14 := g14.below hv2 g14.lt
                    (have s0 := g1.cell 0; have s1 := g1.cell 1; have s2 := g1.cell 2; have s3 := g1.cell 3; have s4 := g1.cell 4; simp at s0 s1 s2 s3 s4)
                    have x0 := g14.cell 0; have x1 := g14.cell 1; have x2 := g14.cell 2; have x3 := g14.cell 3; have x4 := g14.cell 4
                    simp at x0 x1 x2 x3 x4
                    have HSC2 : Hid (Sl intCell 1 V2 V2.heap.size AC ch) := ((HSC1.out.below hv2).more hv2.size : Sl intCell 1 V2 V2.heap.size AC ch)
                    have HSA := Lib.hid slA; have HSB := Lib.hid slB
                    have hbv : Below V1.heap.size V1 V2 := bl2 hb.out hv2
                    clear slA slB
                    --D< st2
                    go_upto_region 35 with (first | (go_at_call 17; refine (HOW3.out _ hbv).mono ?_; rintro _ U4 ⟨s', rfl, hpl, hm, -, hu1⟩; have HPL := Lib.hid (hpl.trans HPW.out); have HR' := Lib.hid hm.reads; clear hpl hm) |
                      (go_at_call 38; refine (ints_rk ((HSC2.out.below hu1).more hu1.size) HCN.out hn1).mono ?_; rintro _ U5 ⟨A2, c2, rfl, hs2, hu2⟩; have HS2 := Lib.hid hs2; clear hs2) |
                      (go_at_call 33; refine (rdn_rk c2 HPL.out ((HR'.out.below hu2).more hu2.size) HS2.out HCN.out (by rw [HCN.out]; exact hn1.2) HRF.out.r2).mono ?_; rintro _ U6 ⟨RA', ra', RB', rb', rfl, hoA, hoB, hu3⟩; have HOA := Lib.hid hoA; have HOB := Lib.hid hoB; clear hoA hoB))
                    obtain ⟨bB, hbB⟩ : ∃ b, b = U6.heap.size := ⟨_, rfl⟩
                    have hu13 := bl2 (bl2 hu1 hu2) hu3
                    rw [← hbB]
                    refine gen_w (fun W => Below V2.heap.size V2 W ∧ Blk W bB #[.int .i64 kd', .slice RA' RQ'.length ra', .slice RB' RM'.length rb'] 73 ∧ Sl intCell 1 W W.heap.size RA' RQ' ∧ Sl intCell 1 W W.heap.size RB' RM') ⟨bla hu13, Blk.at_ hbB, own_sl (HOA.out.alloc _), own_sl (HOB.out.alloc _)⟩ ?_
                    clear HOA HOB hu1 hu2 hu3 hu13 hbB HS2 HPL HR' s0 s1 s2 s3 s4 x0 x1 x2 x3 x4
                    rintro V3 ⟨hv3, gB, slA', slB'⟩
                    have gA := gA.below hv3 gA.lt
                    have HSA2 := Lib.hid ((HSA.out.below hv3).more hv3.size); have HSB2 := Lib.hid ((HSB.out.below hv3).more hv3.size); have HSA' := Lib.hid slA'; have HSB' := Lib.hid slB'
                    have a0 := gA.cell 0; have a1 := gA.cell 1; have a2 := gA.cell 2; have b0 := gB.cell 0; have b1 := gB.cell 1; have b2 := gB.cell 2
                    simp at a0 a1 a2 b0 b1 b2
                    have hbw : Below V1.heap.size V1 V3 := bl2 hbv hv3
                    have hl1 := HRF.out.l1; have hl2 := HRF.out.l2
                    clear slA' slB' HSA HSB hv3 hv2 g1 g14
                    rcases HRF.out.h with ⟨h1, h2, h3, h4⟩ | ⟨h1, h2⟩
                    · subst h2; subst h3; subst h4
                      have e1 : (kd' != 2) = true := by simpa using h1
                      have e2 : (kd' == 2) = false := by simpa using h1
                      have e3 : (kd' != kd') = false := by simp
                      clear h1 HRF
                      go_upto_region 39 with (first | (go_at_call 22; (with_reducible refine (same_rk hl1 HSA2.out HSA'.out).mono ?_); rintro _ V4 ⟨rfl, hs4⟩; have gA := gA.below hs4 gA.lt; have gB := gB.below hs4 gB.lt; have a0 := gA.cell 0; have a1 := gA.cell 1; have a2 := gA.cell 2; have b0 := gB.cell 0; have b1 := gB.cell 1; have b2 := gB.cell 2; simp at a0 a1 a2 b0 b1 b2) | (go_at_call 22; (with_reducible refine (same_rk hl2 ((HSB2.out.below hs4).more hs4.size) ((HSB'.out.below hs4).more hs4.size)).mono ?_); rintro _ V5 ⟨rfl, hs5⟩; have gA := gA.below hs5 gA.lt; have gB := gB.below hs5 gB.lt; have a0 := gA.cell 0; have a1 := gA.cell 1; have a2 := gA.cell 2; have b0 := gB.cell 0; have b1 := gB.cell 1; have b2 := gB.cell 2; simp at a0 a1 a2 b0 b1 b2))
                      have hbx := bl2 (bl2 hbw hs4) hs5
                      go_wp2_with fail
                      go_roundw
                      case rel => exact ⟨k + 1, by omega, by go_num, hbx⟩
                      case measure => simp [intOf] <;> omega
                    · subst h1
                      have e1 : (kd' == 3) = false := by simpa using h2
                      clear h2 HRF
                      go_wp2_with fail
                      go_roundw
                      case rel => exact ⟨k + 1, by omega, by go_num, hbw⟩
                      case measure => simp [intOf] <;> omega
                    --D>
                    --D>
                  · have dk : decide ((k : Int) < s.kinds) = false := by simpa using hlt
                    go_wp2_with (go_at_call 15; refine (known_any _).mono ?_; rintro _ Wk ⟨rfl, hbk'⟩)
                    go_ret
                    exact ⟨rfl, bl2 hwr hbk'⟩
                --D>
end Go.Proofs.Ytidlmbajpbbilaa

/- almanac: the tests of a day. -/
import Derived.Test.YtfbnllmmoaialaaGreatZ12Aq
import Derived.Test.YtfbnllmmoaialaaGreatZ08Aj
namespace Go.Proofs.YtfbnllmmoaialaaGreat
open Go.RowKit

/-- a test holds on a day -/
def holdB (x : Alm) (t : DTs) (day : Int) : Bool :=
  if t.kind = 1 then (match x.cycles[t.which.toNat]? with | some c => bitB t.set (posI c day).toNat | none => false)
  else if t.kind = 2 then bitB t.set (solI x.sol day).m.toNat
  else if t.kind = 3 then bitB t.set (solI x.sol day).d.toNat
  else if t.kind = 4 then bitB t.set (moonI x.lun day).m.toNat
  else if t.kind = 5 then bitB t.set (moonI x.lun day).d.toNat
  else if t.kind = 6 then (moonI x.lun day).k
  else inB day t.fr t.to_
abbrev lkBox (W : World) (b : Nat) (kd wh st fr to_ : Int) : Prop := Blk W b #[.int .i64 kd, .int .i64 wh, .int .u64 st, .int .i64 fr, .int .i64 to_] 90
theorem lkIn_val {kd wh st fr to_ m : Int} {v : Bool} (h : bitB st m.toNat = v) (w : World) (hs : 0 ≤ st ∧ st < 18446744073709551616) (h0 : 0 ≤ m) (h1 : m < 64) :
    Calls Tryz.prog 76 #[.agg #[.int .i64 kd, .int .i64 wh, .int .u64 st, .int .i64 fr, .int .i64 to_], .int .i64 m] w fun e w' => e = .returned (.bool v) ∧ Below w.heap.size w w' := by
  obtain ⟨n, rfl⟩ := Int.eq_ofNat_of_zero_le h0
  rw [← h]
  exact lkIn_any kd wh st fr to_ n w hs (by omega)
theorem fld_s1 (a b c : Int) (w : World) : (Instr.field 54 (.agg #[.int .i64 a, .int .i64 b, .int .i64 c]) 1).run Tryz.prog w = .ok (.int .i64 b) w := by kernel_rfl
theorem fld_s2 (a b c : Int) (w : World) : (Instr.field 54 (.agg #[.int .i64 a, .int .i64 b, .int .i64 c]) 2).run Tryz.prog w = .ok (.int .i64 c) w := by kernel_rfl
theorem fld_m1 (a b c : Int) (k : Bool) (w : World) : (Instr.field 59 (.agg #[.int .i64 a, .int .i64 b, .int .i64 c, .bool k]) 1).run Tryz.prog w = .ok (.int .i64 b) w := by kernel_rfl
theorem fld_m2 (a b c : Int) (k : Bool) (w : World) : (Instr.field 59 (.agg #[.int .i64 a, .int .i64 b, .int .i64 c, .bool k]) 2).run Tryz.prog w = .ok (.int .i64 c) w := by kernel_rfl
theorem fld_m3 (a b c : Int) (k : Bool) (w : World) : (Instr.field 59 (.agg #[.int .i64 a, .int .i64 b, .int .i64 c, .bool k]) 3).run Tryz.prog w = .ok (.bool k) w := by kernel_rfl
set_option maxRecDepth 100000 in
set_option maxHeartbeats 2000000 in
theorem lkT2_any (x : Alm) (z A f0 M : Nat) (day kd wh st fr to_ : Int) (w : World) (hx : almB x = true) (d0 : 0 ≤ day) (d1 : day ≤ 1000000) (hs : LkS x z A f0 M w) (hd : LkD x z A M day w w) (ht : 0 ≤ st ∧ st < 18446744073709551616) :
    Calls Tryz.prog 78 #[.pointer (some ⟨z, 0, none⟩), .agg #[.int .i64 kd, .int .i64 wh, .int .u64 st, .int .i64 fr, .int .i64 to_], .pointer (some ⟨f0, 0, none⟩)] w fun e w' => e = .returned (.bool (bitB st (solI x.sol day).m.toNat)) ∧ LkD x z A M day w w' := by
  have hso : SolOk x.sol := by
    simp only [almB, Bool.and_eq_true] at hx
    exact solB_iff.1 hx.1.2
  obtain ⟨m0, m1, -, -⟩ := solI_bd hso d0 d1
  have HS := Lib.hid hs
  obtain ⟨b, hb⟩ : ∃ b, b = w.heap.size := ⟨_, rfl⟩
  have hbz : b ≠ z := by have := hs.lz; omega
  have HK0 : Hid (LkD x z A M day w (w.alloc (.cells #[.int .i64 kd, .int .i64 wh, .int .u64 st, .int .i64 fr, .int .i64 to_] 90)).drew ∧ lkBox (w.alloc (.cells #[.int .i64 kd, .int .i64 wh, .int .u64 st, .int .i64 fr, .int .i64 to_] 90)).drew b kd wh st fr to_) := ⟨hd.below (((Below.refl _ _).alloc (Nat.le_refl _) _).drew), Blk.at_ hb⟩
  obtain ⟨K, hK⟩ : ∃ K : World → Prop, ∀ W, K W ↔ (LkD x z A M day w W ∧ lkBox W b kd wh st fr to_) := ⟨_, fun _ => Iff.rfl⟩
  have HX := Lib.hid (fun W (h : K W) => by
    have h := (hK W).1 h
    have h1 := bySun_any x z A f0 M day W hx d0 d1 (hs.grown h.1.gr) h.1.self
    exact (h1.mono fun e W' ⟨he, hh⟩ => ⟨he, (hK _).2 ⟨hh.base h.1.gr, h.2.grown hh.gr (by intro e; exact hbz (Option.some.inj e))⟩⟩ : Calls Tryz.prog 79 #[.pointer (some ⟨z, 0, none⟩)] W fun e W' => e = .returned (.agg (solI x.sol day).cells.toArray) ∧ K W'))
  obtain ⟨D, hD⟩ : ∃ D, D = solI x.sol day := ⟨_, rfl⟩
  rw [← hD] at HX m0 m1 ⊢
  obtain ⟨dy, dm, dd⟩ := D
  simp only [SDate.cells] at HX m0 m1 ⊢
  obtain ⟨v, hv⟩ : ∃ v, v = bitB st dm.toNat := ⟨_, rfl⟩
  have HI := Lib.hid (fun W => lkIn_val (kd := kd) (wh := wh) (fr := fr) (to_ := to_) hv.symm W ht (by omega) (by omega))
  rw [← hv]
  have HKB := Lib.hid (fun W W' (h : K W) (hb : Below W.heap.size W W') => ((hK _).2 ⟨((hK _).1 h).1.below hb, ((hK _).1 h).2.below hb ((hK _).1 h).2.lt⟩ : K W'))
  have hE1 : ∀ E : Cls K, (World.cls E).cell? ⟨f0, 0, none⟩ = some (.func (.func 76) #[] #[]) := fun E => by
    have h := (hK _).1 E.h
    exact (hs.inb.grown h.1.gr (by intro e; have := Option.some.inj e; have := hs.lf; omega)).cell 0
  have hE2 : ∀ E : Cls K, (World.cls E).cell? ⟨b, 0, none⟩ = some (.int .i64 kd) := fun E => ((hK _).1 E.h).2.cell 0
  have hE3 : ∀ E : Cls K, (World.cls E).cell? ⟨b, 1, none⟩ = some (.int .i64 wh) := fun E => ((hK _).1 E.h).2.cell 1
  have hE4 : ∀ E : Cls K, (World.cls E).cell? ⟨b, 2, none⟩ = some (.int .u64 st) := fun E => ((hK _).1 E.h).2.cell 2
  have hE5 : ∀ E : Cls K, (World.cls E).cell? ⟨b, 3, none⟩ = some (.int .i64 fr) := fun E => ((hK _).1 E.h).2.cell 3
  have hE6 : ∀ E : Cls K, (World.cls E).cell? ⟨b, 4, none⟩ = some (.int .i64 to_) := fun E => ((hK _).1 E.h).2.cell 4
  have HKK := Lib.hid hK
  have hne : Nonempty (Cls K) := ⟨⟨_, (hK _).2 HK0.out⟩⟩
  have HB := Lib.hid hb
  have hent := ent_lkIn
  have hfld := fld_s1
  unfold Ent at hent
  clear hs hd hD hv hx hso hK hb
  go_enter Tryz.func78, Tryz.ntmps78
  go_upto_region 1 with fail
  rw [← HB.out]
  refine wp_region_cls K ((HKK.out _).2 HK0.out) (by kernel_rfl) (by kernel_rfl) ?_
  (repeat (go_big_quiet_step (first | (go_at_call 79; exact Calls.cls_of (HX.out _ (Cls.h _))) | (exact Calls.cls_below HKB.out (HI.out _)))))
  with_reducible refine wpQuiet_nil ?_
  intro w1 hw1
  have hw2 := (HKK.out _).1 (cls_get hw1)
  clear hw1
  go_wp2
  go_ret
  exact ⟨rfl, hw2.1⟩
set_option maxRecDepth 100000 in
set_option maxHeartbeats 2000000 in
theorem lkT3_any (x : Alm) (z A f0 M : Nat) (day kd wh st fr to_ : Int) (w : World) (hx : almB x = true) (d0 : 0 ≤ day) (d1 : day ≤ 1000000) (hs : LkS x z A f0 M w) (hd : LkD x z A M day w w) (ht : 0 ≤ st ∧ st < 18446744073709551616) :
    Calls Tryz.prog 80 #[.pointer (some ⟨z, 0, none⟩), .agg #[.int .i64 kd, .int .i64 wh, .int .u64 st, .int .i64 fr, .int .i64 to_], .pointer (some ⟨f0, 0, none⟩)] w fun e w' => e = .returned (.bool (bitB st (solI x.sol day).d.toNat)) ∧ LkD x z A M day w w' := by
  have hso : SolOk x.sol := by
    simp only [almB, Bool.and_eq_true] at hx
    exact solB_iff.1 hx.1.2
  obtain ⟨-, -, m0, m1⟩ := solI_bd hso d0 d1
  have HS := Lib.hid hs
  obtain ⟨b, hb⟩ : ∃ b, b = w.heap.size := ⟨_, rfl⟩
  have hbz : b ≠ z := by have := hs.lz; omega
  have HK0 : Hid (LkD x z A M day w (w.alloc (.cells #[.int .i64 kd, .int .i64 wh, .int .u64 st, .int .i64 fr, .int .i64 to_] 90)).drew ∧ lkBox (w.alloc (.cells #[.int .i64 kd, .int .i64 wh, .int .u64 st, .int .i64 fr, .int .i64 to_] 90)).drew b kd wh st fr to_) := ⟨hd.below (((Below.refl _ _).alloc (Nat.le_refl _) _).drew), Blk.at_ hb⟩
  obtain ⟨K, hK⟩ : ∃ K : World → Prop, ∀ W, K W ↔ (LkD x z A M day w W ∧ lkBox W b kd wh st fr to_) := ⟨_, fun _ => Iff.rfl⟩
  have HX := Lib.hid (fun W (h : K W) => by
    have h := (hK W).1 h
    have h1 := bySun_any x z A f0 M day W hx d0 d1 (hs.grown h.1.gr) h.1.self
    exact (h1.mono fun e W' ⟨he, hh⟩ => ⟨he, (hK _).2 ⟨hh.base h.1.gr, h.2.grown hh.gr (by intro e; exact hbz (Option.some.inj e))⟩⟩ : Calls Tryz.prog 79 #[.pointer (some ⟨z, 0, none⟩)] W fun e W' => e = .returned (.agg (solI x.sol day).cells.toArray) ∧ K W'))
  obtain ⟨D, hD⟩ : ∃ D, D = solI x.sol day := ⟨_, rfl⟩
  rw [← hD] at HX m0 m1 ⊢
  obtain ⟨dy, dm, dd⟩ := D
  simp only [SDate.cells] at HX m0 m1 ⊢
  obtain ⟨v, hv⟩ : ∃ v, v = bitB st dd.toNat := ⟨_, rfl⟩
  have HI := Lib.hid (fun W => lkIn_val (kd := kd) (wh := wh) (fr := fr) (to_ := to_) hv.symm W ht (by omega) (by omega))
  rw [← hv]
  have HKB := Lib.hid (fun W W' (h : K W) (hb : Below W.heap.size W W') => ((hK _).2 ⟨((hK _).1 h).1.below hb, ((hK _).1 h).2.below hb ((hK _).1 h).2.lt⟩ : K W'))
  have hE1 : ∀ E : Cls K, (World.cls E).cell? ⟨f0, 0, none⟩ = some (.func (.func 76) #[] #[]) := fun E => by
    have h := (hK _).1 E.h
    exact (hs.inb.grown h.1.gr (by intro e; have := Option.some.inj e; have := hs.lf; omega)).cell 0
  have hE2 : ∀ E : Cls K, (World.cls E).cell? ⟨b, 0, none⟩ = some (.int .i64 kd) := fun E => ((hK _).1 E.h).2.cell 0
  have hE3 : ∀ E : Cls K, (World.cls E).cell? ⟨b, 1, none⟩ = some (.int .i64 wh) := fun E => ((hK _).1 E.h).2.cell 1
  have hE4 : ∀ E : Cls K, (World.cls E).cell? ⟨b, 2, none⟩ = some (.int .u64 st) := fun E => ((hK _).1 E.h).2.cell 2
  have hE5 : ∀ E : Cls K, (World.cls E).cell? ⟨b, 3, none⟩ = some (.int .i64 fr) := fun E => ((hK _).1 E.h).2.cell 3
  have hE6 : ∀ E : Cls K, (World.cls E).cell? ⟨b, 4, none⟩ = some (.int .i64 to_) := fun E => ((hK _).1 E.h).2.cell 4
  have HKK := Lib.hid hK
  have hne : Nonempty (Cls K) := ⟨⟨_, (hK _).2 HK0.out⟩⟩
  have HB := Lib.hid hb
  have hent := ent_lkIn
  have hfld := fld_s2
  unfold Ent at hent
  clear hs hd hD hv hx hso hK hb
  go_enter Tryz.func80, Tryz.ntmps80
  go_upto_region 1 with fail
  rw [← HB.out]
  refine wp_region_cls K ((HKK.out _).2 HK0.out) (by kernel_rfl) (by kernel_rfl) ?_
  (repeat (go_big_quiet_step (first | (go_at_call 79; exact Calls.cls_of (HX.out _ (Cls.h _))) | (exact Calls.cls_below HKB.out (HI.out _)))))
  with_reducible refine wpQuiet_nil ?_
  intro w1 hw1
  have hw2 := (HKK.out _).1 (cls_get hw1)
  clear hw1
  go_wp2
  go_ret
  exact ⟨rfl, hw2.1⟩
set_option maxRecDepth 100000 in
set_option maxHeartbeats 2000000 in
theorem lkT4_any (x : Alm) (z A f0 M : Nat) (day kd wh st fr to_ : Int) (w : World) (hx : almB x = true) (d0 : 0 ≤ day) (d1 : day ≤ 1000000) (hs : LkS x z A f0 M w) (hd : LkD x z A M day w w) (ht : 0 ≤ st ∧ st < 18446744073709551616) :
    Calls Tryz.prog 81 #[.pointer (some ⟨z, 0, none⟩), .agg #[.int .i64 kd, .int .i64 wh, .int .u64 st, .int .i64 fr, .int .i64 to_], .pointer (some ⟨f0, 0, none⟩)] w fun e w' => e = .returned (.bool (bitB st (moonI x.lun day).m.toNat)) ∧ LkD x z A M day w w' := by
  have hso : LunOk x.lun := by
    simp only [almB, Bool.and_eq_true] at hx
    exact lunB_iff.1 hx.2
  obtain ⟨m0, m1, -, -⟩ := moonI_bd hso (d := day)
  have HS := Lib.hid hs
  obtain ⟨b, hb⟩ : ∃ b, b = w.heap.size := ⟨_, rfl⟩
  have hbz : b ≠ z := by have := hs.lz; omega
  have HK0 : Hid (LkD x z A M day w (w.alloc (.cells #[.int .i64 kd, .int .i64 wh, .int .u64 st, .int .i64 fr, .int .i64 to_] 90)).drew ∧ lkBox (w.alloc (.cells #[.int .i64 kd, .int .i64 wh, .int .u64 st, .int .i64 fr, .int .i64 to_] 90)).drew b kd wh st fr to_) := ⟨hd.below (((Below.refl _ _).alloc (Nat.le_refl _) _).drew), Blk.at_ hb⟩
  obtain ⟨K, hK⟩ : ∃ K : World → Prop, ∀ W, K W ↔ (LkD x z A M day w W ∧ lkBox W b kd wh st fr to_) := ⟨_, fun _ => Iff.rfl⟩
  have HX := Lib.hid (fun W (h : K W) => by
    have h := (hK W).1 h
    have h1 := byMoon_any x z A f0 M day W hx d0 d1 (hs.grown h.1.gr) h.1.self
    exact (h1.mono fun e W' ⟨he, hh⟩ => ⟨he, (hK _).2 ⟨hh.base h.1.gr, h.2.grown hh.gr (by intro e; exact hbz (Option.some.inj e))⟩⟩ : Calls Tryz.prog 82 #[.pointer (some ⟨z, 0, none⟩)] W fun e W' => e = .returned (.agg (moonI x.lun day).cells.toArray) ∧ K W'))
  obtain ⟨D, hD⟩ : ∃ D, D = moonI x.lun day := ⟨_, rfl⟩
  rw [← hD] at HX m0 m1 ⊢
  obtain ⟨dy, dm, dd, dk⟩ := D
  simp only [LDate.cells] at HX m0 m1 ⊢
  obtain ⟨v, hv⟩ : ∃ v, v = bitB st dm.toNat := ⟨_, rfl⟩
  have HI := Lib.hid (fun W => lkIn_val (kd := kd) (wh := wh) (fr := fr) (to_ := to_) hv.symm W ht (by omega) (by omega))
  rw [← hv]
  have HKB := Lib.hid (fun W W' (h : K W) (hb : Below W.heap.size W W') => ((hK _).2 ⟨((hK _).1 h).1.below hb, ((hK _).1 h).2.below hb ((hK _).1 h).2.lt⟩ : K W'))
  have hE1 : ∀ E : Cls K, (World.cls E).cell? ⟨f0, 0, none⟩ = some (.func (.func 76) #[] #[]) := fun E => by
    have h := (hK _).1 E.h
    exact (hs.inb.grown h.1.gr (by intro e; have := Option.some.inj e; have := hs.lf; omega)).cell 0
  have hE2 : ∀ E : Cls K, (World.cls E).cell? ⟨b, 0, none⟩ = some (.int .i64 kd) := fun E => ((hK _).1 E.h).2.cell 0
  have hE3 : ∀ E : Cls K, (World.cls E).cell? ⟨b, 1, none⟩ = some (.int .i64 wh) := fun E => ((hK _).1 E.h).2.cell 1
  have hE4 : ∀ E : Cls K, (World.cls E).cell? ⟨b, 2, none⟩ = some (.int .u64 st) := fun E => ((hK _).1 E.h).2.cell 2
  have hE5 : ∀ E : Cls K, (World.cls E).cell? ⟨b, 3, none⟩ = some (.int .i64 fr) := fun E => ((hK _).1 E.h).2.cell 3
  have hE6 : ∀ E : Cls K, (World.cls E).cell? ⟨b, 4, none⟩ = some (.int .i64 to_) := fun E => ((hK _).1 E.h).2.cell 4
  have HKK := Lib.hid hK
  have hne : Nonempty (Cls K) := ⟨⟨_, (hK _).2 HK0.out⟩⟩
  have HB := Lib.hid hb
  have hent := ent_lkIn
  have hfld := fld_m1
  unfold Ent at hent
  clear hs hd hD hv hx hso hK hb
  go_enter Tryz.func81, Tryz.ntmps81
  go_upto_region 1 with fail
  rw [← HB.out]
  refine wp_region_cls K ((HKK.out _).2 HK0.out) (by kernel_rfl) (by kernel_rfl) ?_
  (repeat (go_big_quiet_step (first | (go_at_call 82; exact Calls.cls_of (HX.out _ (Cls.h _))) | (exact Calls.cls_below HKB.out (HI.out _)))))
  with_reducible refine wpQuiet_nil ?_
  intro w1 hw1
  have hw2 := (HKK.out _).1 (cls_get hw1)
  clear hw1
  go_wp2
  go_ret
  exact ⟨rfl, hw2.1⟩
set_option maxRecDepth 100000 in
set_option maxHeartbeats 2000000 in
theorem lkT5_any (x : Alm) (z A f0 M : Nat) (day kd wh st fr to_ : Int) (w : World) (hx : almB x = true) (d0 : 0 ≤ day) (d1 : day ≤ 1000000) (hs : LkS x z A f0 M w) (hd : LkD x z A M day w w) (ht : 0 ≤ st ∧ st < 18446744073709551616) :
    Calls Tryz.prog 83 #[.pointer (some ⟨z, 0, none⟩), .agg #[.int .i64 kd, .int .i64 wh, .int .u64 st, .int .i64 fr, .int .i64 to_], .pointer (some ⟨f0, 0, none⟩)] w fun e w' => e = .returned (.bool (bitB st (moonI x.lun day).d.toNat)) ∧ LkD x z A M day w w' := by
  have hso : LunOk x.lun := by
    simp only [almB, Bool.and_eq_true] at hx
    exact lunB_iff.1 hx.2
  obtain ⟨-, -, m0, m1⟩ := moonI_bd hso (d := day)
  have HS := Lib.hid hs
  obtain ⟨b, hb⟩ : ∃ b, b = w.heap.size := ⟨_, rfl⟩
  have hbz : b ≠ z := by have := hs.lz; omega
  have HK0 : Hid (LkD x z A M day w (w.alloc (.cells #[.int .i64 kd, .int .i64 wh, .int .u64 st, .int .i64 fr, .int .i64 to_] 90)).drew ∧ lkBox (w.alloc (.cells #[.int .i64 kd, .int .i64 wh, .int .u64 st, .int .i64 fr, .int .i64 to_] 90)).drew b kd wh st fr to_) := ⟨hd.below (((Below.refl _ _).alloc (Nat.le_refl _) _).drew), Blk.at_ hb⟩
  obtain ⟨K, hK⟩ : ∃ K : World → Prop, ∀ W, K W ↔ (LkD x z A M day w W ∧ lkBox W b kd wh st fr to_) := ⟨_, fun _ => Iff.rfl⟩
  have HX := Lib.hid (fun W (h : K W) => by
    have h := (hK W).1 h
    have h1 := byMoon_any x z A f0 M day W hx d0 d1 (hs.grown h.1.gr) h.1.self
    exact (h1.mono fun e W' ⟨he, hh⟩ => ⟨he, (hK _).2 ⟨hh.base h.1.gr, h.2.grown hh.gr (by intro e; exact hbz (Option.some.inj e))⟩⟩ : Calls Tryz.prog 82 #[.pointer (some ⟨z, 0, none⟩)] W fun e W' => e = .returned (.agg (moonI x.lun day).cells.toArray) ∧ K W'))
  obtain ⟨D, hD⟩ : ∃ D, D = moonI x.lun day := ⟨_, rfl⟩
  rw [← hD] at HX m0 m1 ⊢
  obtain ⟨dy, dm, dd, dk⟩ := D
  simp only [LDate.cells] at HX m0 m1 ⊢
  obtain ⟨v, hv⟩ : ∃ v, v = bitB st dd.toNat := ⟨_, rfl⟩
  have HI := Lib.hid (fun W => lkIn_val (kd := kd) (wh := wh) (fr := fr) (to_ := to_) hv.symm W ht (by omega) (by omega))
  rw [← hv]
  have HKB := Lib.hid (fun W W' (h : K W) (hb : Below W.heap.size W W') => ((hK _).2 ⟨((hK _).1 h).1.below hb, ((hK _).1 h).2.below hb ((hK _).1 h).2.lt⟩ : K W'))
  have hE1 : ∀ E : Cls K, (World.cls E).cell? ⟨f0, 0, none⟩ = some (.func (.func 76) #[] #[]) := fun E => by
    have h := (hK _).1 E.h
    exact (hs.inb.grown h.1.gr (by intro e; have := Option.some.inj e; have := hs.lf; omega)).cell 0
  have hE2 : ∀ E : Cls K, (World.cls E).cell? ⟨b, 0, none⟩ = some (.int .i64 kd) := fun E => ((hK _).1 E.h).2.cell 0
  have hE3 : ∀ E : Cls K, (World.cls E).cell? ⟨b, 1, none⟩ = some (.int .i64 wh) := fun E => ((hK _).1 E.h).2.cell 1
  have hE4 : ∀ E : Cls K, (World.cls E).cell? ⟨b, 2, none⟩ = some (.int .u64 st) := fun E => ((hK _).1 E.h).2.cell 2
  have hE5 : ∀ E : Cls K, (World.cls E).cell? ⟨b, 3, none⟩ = some (.int .i64 fr) := fun E => ((hK _).1 E.h).2.cell 3
  have hE6 : ∀ E : Cls K, (World.cls E).cell? ⟨b, 4, none⟩ = some (.int .i64 to_) := fun E => ((hK _).1 E.h).2.cell 4
  have HKK := Lib.hid hK
  have hne : Nonempty (Cls K) := ⟨⟨_, (hK _).2 HK0.out⟩⟩
  have HB := Lib.hid hb
  have hent := ent_lkIn
  have hfld := fld_m2
  unfold Ent at hent
  clear hs hd hD hv hx hso hK hb
  go_enter Tryz.func83, Tryz.ntmps83
  go_upto_region 1 with fail
  rw [← HB.out]
  refine wp_region_cls K ((HKK.out _).2 HK0.out) (by kernel_rfl) (by kernel_rfl) ?_
  (repeat (go_big_quiet_step (first | (go_at_call 82; exact Calls.cls_of (HX.out _ (Cls.h _))) | (exact Calls.cls_below HKB.out (HI.out _)))))
  with_reducible refine wpQuiet_nil ?_
  intro w1 hw1
  have hw2 := (HKK.out _).1 (cls_get hw1)
  clear hw1
  go_wp2
  go_ret
  exact ⟨rfl, hw2.1⟩
set_option maxRecDepth 100000 in
set_option maxHeartbeats 2000000 in
theorem lkT6_any (x : Alm) (z A f0 M : Nat) (day kd wh st fr to_ : Int) (w : World) (hx : almB x = true) (d0 : 0 ≤ day) (d1 : day ≤ 1000000) (hs : LkS x z A f0 M w) (hd : LkD x z A M day w w) :
    Calls Tryz.prog 84 #[.pointer (some ⟨z, 0, none⟩), .agg #[.int .i64 kd, .int .i64 wh, .int .u64 st, .int .i64 fr, .int .i64 to_]] w fun e w' => e = .returned (.bool (moonI x.lun day).k) ∧ LkD x z A M day w w' := by
  have HD : Hid (LkD x z A M day w (w.alloc (.cells #[.int .i64 kd, .int .i64 wh, .int .u64 st, .int .i64 fr, .int .i64 to_] 90))) := hd.below ((Below.refl _ _).alloc (Nat.le_refl _) _)
  have HX := Lib.hid (byMoon_any x z A f0 M day (w.alloc (.cells #[.int .i64 kd, .int .i64 wh, .int .u64 st, .int .i64 fr, .int .i64 to_] 90)) hx d0 d1 (hs.grown HD.out.gr) HD.out.self)
  obtain ⟨D, hD⟩ : ∃ D, D = moonI x.lun day := ⟨_, rfl⟩
  rw [← hD] at HX ⊢
  obtain ⟨dy, dm, dd, dk⟩ := D
  simp only [LDate.cells] at HX ⊢
  have hfld := fld_m3
  clear hs hd hD hx
  go_enter Tryz.func84, Tryz.ntmps84
  go_wp2_with (go_at_call 82; refine HX.out.mono ?_; rintro _ W1 ⟨rfl, hd1⟩)
  go_ret
  exact ⟨rfl, hd1.base HD.out.gr⟩
set_option maxRecDepth 100000 in
set_option maxHeartbeats 2000000 in
theorem lkT7_any (x : Alm) (z A f0 M : Nat) (day kd wh st fr to_ : Int) (w : World) (hs : LkS x z A f0 M w) (hd : LkD x z A M day w w) :
    Calls Tryz.prog 85 #[.pointer (some ⟨z, 0, none⟩), .agg #[.int .i64 kd, .int .i64 wh, .int .u64 st, .int .i64 fr, .int .i64 to_]] w fun e w' => e = .returned (.bool (inB day fr to_)) ∧ LkD x z A M day w w' := by
  have HD := Lib.hid hd
  obtain ⟨sv, mv, gz, -, -⟩ := hd.at_
  obtain ⟨b, hb⟩ : ∃ b, b = w.heap.size := ⟨_, rfl⟩
  have HW := Lib.hid (fun W => within_any day fr to_ W)
  clear hs hd
  go_enter Tryz.func85, Tryz.ntmps85
  go_upto_region 1 with fail
  rw [← hb]
  refine gen_w (fun W => Below w.heap.size w W ∧ Blk W z (lkv A day sv mv M) 123 ∧ lkBox W b kd wh st fr to_) ⟨(Below.refl _ _).alloc (Nat.le_refl _) _, gz.alloc _, Blk.at_ hb⟩ ?_
  clear gz hb
  rintro V ⟨hw, gz, gt⟩
  have c1 := gz.cell 1; have t3 := gt.cell 3; have t4 := gt.cell 4
  simp at c1 t3 t4
  (refine wp_region_ext (by kernel_rfl) (by kernel_rfl) ?_; (repeat (go_big_quiet_step((go_at_call 35; exact Calls.ext_same (HW.out _))))); with_reducible refine wpQuiet_nil ?_; intro w1 hw1; have hb1 := ext_below hw1; clear hw1)
  go_wp2
  go_ret
  exact ⟨rfl, HD.out.below (bl2 hw hb1)⟩
set_option maxRecDepth 100000 in
set_option maxHeartbeats 2000000 in
theorem lkT1_any (x : Alm) (z A f0 M : Nat) (day kd wh st fr to_ : Int) (w : World) (hx : almB x = true) (d0 : 0 ≤ day) (d1 : day ≤ 1000000) (hs : LkS x z A f0 M w) (hd : LkD x z A M day w w) (ht : 0 ≤ st ∧ st < 18446744073709551616) (c : Cyc) (h0 : 0 ≤ wh) (hc : x.cycles[wh.toNat]? = some c) :
    Calls Tryz.prog 77 #[.pointer (some ⟨z, 0, none⟩), .agg #[.int .i64 kd, .int .i64 wh, .int .u64 st, .int .i64 fr, .int .i64 to_], .pointer (some ⟨f0, 0, none⟩)] w fun e w' => e = .returned (.bool (bitB st (posI c day).toNat)) ∧ LkD x z A M day w w' := by
  obtain ⟨n, rfl⟩ := Int.eq_ofNat_of_zero_le h0
  rw [Int.toNat_natCast] at hc
  obtain ⟨hn, hcn⟩ := List.getElem?_eq_some_iff.1 hc
  have hcy : cycB c = true := by
    simp only [almB, Bool.and_eq_true, List.all_eq_true] at hx
    exact hx.1.1.2 c (List.mem_of_getElem? hc)
  have hlen : x.cycles.length ≤ 8 := by
    simp only [almB, Bool.and_eq_true, decide_eq_true_eq] at hx
    exact hx.1.1.1
  have HD := Lib.hid hd
  obtain ⟨sv, mv, gz, -, -⟩ := hd.at_
  obtain ⟨ab, ao, hxa, hblk, hcell⟩ := hs.cyc.at_ (k := n) (fun _ => rfl) hn
  rw [hcn] at hcell
  obtain ⟨cl, cs⟩ := c
  have e0 : w.cell? ⟨ab, ao + n * 2, none⟩ = some (.int .i64 cl) := hcell 0 _ rfl
  have e1 : w.cell? ⟨ab, ao + n * 2 + 1, none⟩ = some (.int .i64 cs) := hcell 1 _ rfl
  obtain ⟨⟨l1, l2⟩, l3, l4⟩ := cycB_iff.1 hcy
  simp only at l1 l2 l3 l4
  have HP := Lib.hid (fun W => position_any cl cs day W hcy d0 (by omega))
  have hp0 : 0 ≤ posI ⟨cl, cs⟩ day ∧ posI ⟨cl, cs⟩ day < 64 := by
    unfold posI
    simp only
    have h1 := Int.emod_nonneg (day - cs + cl) (show cl ≠ 0 by omega)
    have h2 := Int.emod_lt_of_pos (day - cs + cl) (show 0 < cl by omega)
    omega
  obtain ⟨q, hq⟩ : ∃ q, q = posI ⟨cl, cs⟩ day := ⟨_, rfl⟩
  rw [← hq] at HP hp0 ⊢
  obtain ⟨v, hv⟩ : ∃ v, v = bitB st q.toNat := ⟨_, rfl⟩
  have HI := Lib.hid (fun W => lkIn_val (kd := kd) (wh := (n : Int)) (fr := fr) (to_ := to_) hv.symm W ht hp0.1 hp0.2)
  rw [← hv]
  have hzl := hs.lz
  have ga := hs.alm
  have gi := hs.inb
  have hAz := hs.la
  obtain ⟨b, hb⟩ : ∃ b, b = w.heap.size := ⟨_, rfl⟩
  obtain ⟨m, hm⟩ : ∃ m, m = x.cycles.length := ⟨_, rfl⟩
  simp only [Alm.cells, hxa, ← hm] at ga
  rw [← hm] at hlen hn
  have k1 : (n : Int) < (m : Int) := by omega
  have k0 : (0 : Int) ≤ (n : Int) := by omega
  have hent := ent_lkIn
  unfold Ent at hent
  clear hs hd hcell hxa hc hcn hcy hx hq hv hm h0
  go_enter Tryz.func77, Tryz.ntmps77
  go_upto_region 1 with fail
  rw [← hb]
  refine gen_w (fun W => Below w.heap.size w W ∧ Blk W z (lkv A day sv mv M) 123 ∧ lkBox W b kd n st fr to_ ∧ W.cell? ⟨A, 0, none⟩ = some (.slice (some ⟨ab, ao, none⟩) m x.c) ∧ W.cell? ⟨f0, 0, none⟩ = some (.func (.func 76) #[] #[]) ∧ W.cell? ⟨ab, ao + n * 2, none⟩ = some (.int .i64 cl) ∧ W.cell? ⟨ab, ao + n * 2 + 1, none⟩ = some (.int .i64 cs)) ⟨(Below.refl _ _).alloc (Nat.le_refl _) _, gz.alloc _, Blk.at_ hb, (ga.alloc _).cell 0, (gi.alloc _).cell 0, (World.cell?_alloc_lt _ _ _ (by show ab < w.heap.size; omega)).trans e0, (World.cell?_alloc_lt _ _ _ (by show ab < w.heap.size; omega)).trans e1⟩ ?_
  clear gz hb ga gi e0 e1
  rintro V ⟨hw, gz, gt, ga, gi, e0, e1⟩
  have c0 := gz.cell 0; have c1 := gz.cell 1; have t0 := gt.cell 0; have t1 := gt.cell 1; have t2 := gt.cell 2; have t3 := gt.cell 3; have t4 := gt.cell 4
  simp at c0 c1 t0 t1 t2 t3 t4
  (refine wp_region_ext (by kernel_rfl) (by kernel_rfl) ?_; (repeat (go_big_quiet_step((first | (go_at_call 37; exact Calls.ext_of (HP.out _)) | exact Calls.ext_of (HI.out _))))); with_reducible refine wpQuiet_nil ?_; intro w1 hw1; have hb1 := ext_below hw1; clear hw1)
  go_wp2
  go_ret
  exact ⟨rfl, HD.out.below (bl2 hw hb1)⟩
end Go.Proofs.YtfbnllmmoaialaaGreat
namespace Go.Proofs.YtfbnllmmoaialaaGreat
open Go.RowKit

set_option maxRecDepth 100000 in
theorem tidxI_any (g : Nat) (cap : Array Value) (A : Option Addr) (c : Nat) (ts : List DTs) (p : DTs → Bool) (w : World) (Inv : World → Prop)
    (hg : Ent g) (hl : ts.length ≤ 1000000) (hr : ∀ W, Inv W → Sl DTs.cells 5 W W.heap.size A ts)
    (hf : ∀ t ∈ ts, ∀ W, Inv W → Calls Tryz.prog g (#[Value.agg #[(.int .i64 t.kind), (.int .i64 t.which), (.int .u64 t.set), (.int .i64 t.fr), (.int .i64 t.to_)]] ++ cap) W fun e W' => e = .returned (.bool (p t)) ∧ Inv W') (h0 : Inv w) :
    Calls Tryz.prog 97 #[.slice A ts.length c, .func (.func g) #[] cap] w fun e w' => e = .returned (.int .i64 (firstIdx p ts)) ∧ Inv w' := by
  unfold Ent at hg
  have HF := Lib.hid hf; clear hf
  have HR := Lib.hid hr; clear hr
  have H0 := Lib.hid h0; clear h0
  go_enter Tryz.func97, Tryz.ntmps97
  go_wp2
  go_loopw [8] (fun i wr => ∃ k : Nat, k ≤ ts.length ∧ i = .int .i64 k ∧ Hid (Inv wr) ∧ Hid (∀ j, (hj : j < ts.length) → j < k → p ts[j] = false)) (fun i _ => ts.length - (intOf i).toNat)
  case atStart => exact ⟨0, by omega, rfl, H0, fun j _ h => by omega⟩
  case round =>
    obtain ⟨k, hk, rfl, hb, hno⟩ := hrel
    by_cases hlt : k < ts.length
    · obtain ⟨ab, ao, rfl, hblk, hcell⟩ := (HR.out _ hb.out).at_ (k := k) (fun _ => rfl) hlt
      obtain ⟨t, ht⟩ : ∃ t, ts[k] = t := ⟨_, rfl⟩
      rw [ht] at hcell
      have HM := Lib.hid (show t ∈ ts from ht ▸ List.getElem_mem hlt)
      have HT := Lib.hid ht; clear ht
      have c0 : wr.cell? ⟨ab, ao + k * 5, none⟩ = some (.int .i64 t.kind) := hcell 0 _ rfl
      have c1 : wr.cell? ⟨ab, ao + k * 5 + 1, none⟩ = some (.int .i64 t.which) := hcell 1 _ rfl
      have c2 : wr.cell? ⟨ab, ao + k * 5 + 2, none⟩ = some (.int .u64 t.set) := hcell 2 _ rfl
      have c3 : wr.cell? ⟨ab, ao + k * 5 + 3, none⟩ = some (.int .i64 t.fr) := hcell 3 _ rfl
      have c4 : wr.cell? ⟨ab, ao + k * 5 + 4, none⟩ = some (.int .i64 t.to_) := hcell 4 _ rfl
      clear hcell
      go_wp2_with fail
      refine (HF.out t HM.out wr hb.out).mono ?_
      rintro e w1 ⟨rfl, hb1⟩
      have HB1 := Lib.hid hb1
      clear hb1
      by_cases hp : p t = true
      · rw [hp]
        go_wp2
        go_ret
        exact ⟨ret_int (firstIdx_at p ts k hlt (fun j hj => hno.out j (by omega) hj) (HT.out ▸ hp)).symm, HB1.out⟩
      · simp only [Bool.not_eq_true] at hp
        rw [hp]
        go_wp2
        go_roundw
        case rel => exact ⟨k + 1, by omega, by go_num, HB1, fun j hj hj' => if h : j < k then hno.out j hj h else by obtain rfl : j = k := (by omega); exact HT.out ▸ hp⟩
        case measure => simp [intOf]; omega
    · go_wp2
      go_ret
      obtain rfl : k = ts.length := by omega
      exact ⟨ret_int (firstIdx_none p ts (fun j hj => hno.out j hj hj)).symm, hb.out⟩

theorem tanyI_any (g : Nat) (cap : Array Value) (A : Option Addr) (c : Nat) (ts : List DTs) (p : DTs → Bool) (w : World) (Inv : World → Prop)
    (hg : Ent g) (hl : ts.length ≤ 1000000) (hr : ∀ W, Inv W → Sl DTs.cells 5 W W.heap.size A ts)
    (hf : ∀ t ∈ ts, ∀ W, Inv W → Calls Tryz.prog g (#[Value.agg #[(.int .i64 t.kind), (.int .i64 t.which), (.int .u64 t.set), (.int .i64 t.fr), (.int .i64 t.to_)]] ++ cap) W fun e W' => e = .returned (.bool (p t)) ∧ Inv W') (h0 : Inv w) :
    Calls Tryz.prog 73 #[.slice A ts.length c, .func (.func g) #[] cap] w fun e w' => e = .returned (.bool (ts.any p)) ∧ Inv w' := by
  have H := Lib.hid (tidxI_any g cap A c ts p w Inv hg hl hr hf h0)
  clear hf hr hl hg h0
  go_enter Tryz.func73, Tryz.ntmps73
  go_wp2_with fail
  refine H.out.mono ?_
  rintro e w1 ⟨rfl, hb1⟩
  have HB1 := Lib.hid hb1
  clear hb1
  go_wp2
  go_ret
  exact ⟨ret_bool (by rw [← firstIdx_any]), HB1.out⟩

set_option maxRecDepth 100000 in
theorem pidxI_any (g : Nat) (cap : Array Value) (A : Option Addr) (c : Nat) (ts : List DPs) (p : DPs → Bool) (w : World) (Inv : World → Prop)
    (hg : Ent g) (hl : ts.length ≤ 1000000) (hr : ∀ W, Inv W → Sl DPs.cells 1 W W.heap.size A ts)
    (hf : ∀ t ∈ ts, ∀ W, Inv W → Calls Tryz.prog g (#[.slice t.a t.rules.length t.c] ++ cap) W fun e W' => e = .returned (.bool (p t)) ∧ Inv W') (h0 : Inv w) :
    Calls Tryz.prog 86 #[.slice A ts.length c, .func (.func g) #[] cap] w fun e w' => e = .returned (.int .i64 (firstIdx p ts)) ∧ Inv w' := by
  unfold Ent at hg
  have HF := Lib.hid hf; clear hf
  have HR := Lib.hid hr; clear hr
  have H0 := Lib.hid h0; clear h0
  go_enter Tryz.func86, Tryz.ntmps86
  go_wp2
  go_loopw [8] (fun i wr => ∃ k : Nat, k ≤ ts.length ∧ i = .int .i64 k ∧ Hid (Inv wr) ∧ Hid (∀ j, (hj : j < ts.length) → j < k → p ts[j] = false)) (fun i _ => ts.length - (intOf i).toNat)
  case atStart => exact ⟨0, by omega, rfl, H0, fun j _ h => by omega⟩
  case round =>
    obtain ⟨k, hk, rfl, hb, hno⟩ := hrel
    by_cases hlt : k < ts.length
    · obtain ⟨ab, ao, rfl, hblk, hcell⟩ := (HR.out _ hb.out).at_ (k := k) (fun _ => rfl) hlt
      obtain ⟨t, ht⟩ : ∃ t, ts[k] = t := ⟨_, rfl⟩
      rw [ht] at hcell
      have HM := Lib.hid (show t ∈ ts from ht ▸ List.getElem_mem hlt)
      have HT := Lib.hid ht; clear ht
      have c0 : wr.cell? ⟨ab, ao + k, none⟩ = some (.slice t.a t.rules.length t.c) := by have := hcell 0 _ rfl; simpa using this
      clear hcell
      go_wp2_with fail
      refine (HF.out t HM.out wr hb.out).mono ?_
      rintro e w1 ⟨rfl, hb1⟩
      have HB1 := Lib.hid hb1
      clear hb1
      by_cases hp : p t = true
      · rw [hp]
        go_wp2
        go_ret
        exact ⟨ret_int (firstIdx_at p ts k hlt (fun j hj => hno.out j (by omega) hj) (HT.out ▸ hp)).symm, HB1.out⟩
      · simp only [Bool.not_eq_true] at hp
        rw [hp]
        go_wp2
        go_roundw
        case rel => exact ⟨k + 1, by omega, by go_num, HB1, fun j hj hj' => if h : j < k then hno.out j hj h else by obtain rfl : j = k := (by omega); exact HT.out ▸ hp⟩
        case measure => simp [intOf]; omega
    · go_wp2
      go_ret
      obtain rfl : k = ts.length := by omega
      exact ⟨ret_int (firstIdx_none p ts (fun j hj => hno.out j hj hj)).symm, hb.out⟩

theorem panyI_any (g : Nat) (cap : Array Value) (A : Option Addr) (c : Nat) (ts : List DPs) (p : DPs → Bool) (w : World) (Inv : World → Prop)
    (hg : Ent g) (hl : ts.length ≤ 1000000) (hr : ∀ W, Inv W → Sl DPs.cells 1 W W.heap.size A ts)
    (hf : ∀ t ∈ ts, ∀ W, Inv W → Calls Tryz.prog g (#[.slice t.a t.rules.length t.c] ++ cap) W fun e W' => e = .returned (.bool (p t)) ∧ Inv W') (h0 : Inv w) :
    Calls Tryz.prog 50 #[.slice A ts.length c, .func (.func g) #[] cap] w fun e w' => e = .returned (.bool (ts.any p)) ∧ Inv w' := by
  have H := Lib.hid (pidxI_any g cap A c ts p w Inv hg hl hr hf h0)
  clear hf hr hl hg h0
  go_enter Tryz.func50, Tryz.ntmps50
  go_wp2_with fail
  refine H.out.mono ?_
  rintro e w1 ⟨rfl, hb1⟩
  have HB1 := Lib.hid hb1
  clear hb1
  go_wp2
  go_ret
  exact ⟨ret_bool (by rw [← firstIdx_any]), HB1.out⟩
end Go.Proofs.YtfbnllmmoaialaaGreat
namespace Go.Proofs.YtfbnllmmoaialaaGreat
open Go.RowKit

theorem ent_lkT1 : Ent 77 := ent_of (fn := Tryz.f77) (by kernel_rfl) (by kernel_rfl) (by kernel_rfl)
theorem ent_lkT2 : Ent 78 := ent_of (fn := Tryz.f78) (by kernel_rfl) (by kernel_rfl) (by kernel_rfl)
theorem ent_lkT3 : Ent 80 := ent_of (fn := Tryz.f80) (by kernel_rfl) (by kernel_rfl) (by kernel_rfl)
theorem ent_lkT4 : Ent 81 := ent_of (fn := Tryz.f81) (by kernel_rfl) (by kernel_rfl) (by kernel_rfl)
theorem ent_lkT5 : Ent 83 := ent_of (fn := Tryz.f83) (by kernel_rfl) (by kernel_rfl) (by kernel_rfl)
theorem ent_lkT6 : Ent 84 := ent_of (fn := Tryz.f84) (by kernel_rfl) (by kernel_rfl) (by kernel_rfl)
theorem ent_lkT7 : Ent 85 := ent_of (fn := Tryz.f85) (by kernel_rfl) (by kernel_rfl) (by kernel_rfl)
abbrev tval (t : DTs) : Value := .agg #[.int .i64 t.kind, .int .i64 t.which, .int .u64 t.set, .int .i64 t.fr, .int .i64 t.to_]
theorem test_of (x : Alm) (z A f0 M : Nat) (day : Int) (t : DTs) (hx : almB x = true) (d0 : 0 ≤ day) (d1 : day ≤ 1000000) (ht : 0 ≤ t.set ∧ t.set < 18446744073709551616) (hT : tstB x.cycles t = true) :
    ∃ g cap i, Instr.findNow (.int .i64) (.int .i64 t.kind) (lkMap f0).toList 0 = some (some (i, .func (.func g) #[] cap)) ∧ Ent g ∧ ∀ W, LkS x z A f0 M W → LkD x z A M day W W →
      Calls Tryz.prog g (#[.pointer (some ⟨z, 0, none⟩), tval t] ++ cap) W fun e W' => e = .returned (.bool (holdB x t day)) ∧ LkD x z A M day W W' := by
  obtain ⟨kd, wh, st, fr, to_⟩ := t
  simp only at ht
  by_cases h1 : kd = 1
  · subst h1
    simp only [tstB, if_true, Bool.and_eq_true] at hT
    obtain ⟨⟨⟨hw, -⟩, -⟩, hm⟩ := hT
    have hw0 := (inB_iff.1 hw).1
    cases hc : x.cycles[wh.toNat]? with
    | none => rw [hc] at hm; cases hm
    | some c => exact ⟨77, _, 0, rfl, ent_lkT1, fun W hs hd => by
        have e : holdB x ⟨1, wh, st, fr, to_⟩ day = bitB st (posI c day).toNat := by simp only [holdB, if_true, hc]
        rw [e]; exact lkT1_any x z A f0 M day 1 wh st fr to_ W hx d0 d1 hs hd ht c hw0 hc⟩
  by_cases h2 : kd = 2
  · subst h2; exact ⟨78, _, 1, rfl, ent_lkT2, fun W hs hd => lkT2_any x z A f0 M day 2 wh st fr to_ W hx d0 d1 hs hd ht⟩
  by_cases h3 : kd = 3
  · subst h3; exact ⟨80, _, 2, rfl, ent_lkT3, fun W hs hd => lkT3_any x z A f0 M day 3 wh st fr to_ W hx d0 d1 hs hd ht⟩
  by_cases h4 : kd = 4
  · subst h4; exact ⟨81, _, 3, rfl, ent_lkT4, fun W hs hd => lkT4_any x z A f0 M day 4 wh st fr to_ W hx d0 d1 hs hd ht⟩
  by_cases h5 : kd = 5
  · subst h5; exact ⟨83, _, 4, rfl, ent_lkT5, fun W hs hd => lkT5_any x z A f0 M day 5 wh st fr to_ W hx d0 d1 hs hd ht⟩
  by_cases h6 : kd = 6
  · subst h6; exact ⟨84, _, 5, rfl, ent_lkT6, fun W hs hd => lkT6_any x z A f0 M day 6 wh st fr to_ W hx d0 d1 hs hd⟩
  by_cases h7 : kd = 7
  · subst h7; exact ⟨85, _, 6, rfl, ent_lkT7, fun W hs hd => lkT7_any x z A f0 M day 7 wh st fr to_ W hs hd⟩
  have : tstB x.cycles ⟨kd, wh, st, fr, to_⟩ = false := by simp [tstB, h1, h2, h3, h4, h5, h6, h7]
  rw [this] at hT; cases hT
theorem ent_dec1 : Ent 100 := ent_of (fn := Tryz.f100) (by kernel_rfl) (by kernel_rfl) (by kernel_rfl)
set_option maxRecDepth 100000 in
set_option maxHeartbeats 2000000 in
theorem dec1_any (x : Alm) (z A f0 M lb : Nat) (day : Int) (t : DTs) (w : World) (hx : almB x = true) (d0 : 0 ≤ day) (d1 : day ≤ 1000000) (ht : 0 ≤ t.set ∧ t.set < 18446744073709551616) (hT : tstB x.cycles t = true)
    (hs : LkS x z A f0 M w) (hd : LkD x z A M day w w) (hlb : Blk w lb #[.pointer (some ⟨z, 0, none⟩)] 93) (hne : lb ≠ z) :
    Calls Tryz.prog 100 #[tval t, .pointer (some ⟨lb, 0, none⟩)] w fun e w' => e = .returned (.bool (!holdB x t day)) ∧ LkD x z A M day w w' := by
  obtain ⟨g, cap, i, hfind, hent, hcall⟩ := test_of x z A f0 M day t hx d0 d1 ht hT
  obtain ⟨kd, wh, st, fr, to_⟩ := t
  simp only [tval] at hcall ⊢
  obtain ⟨v, hv⟩ : ∃ v, v = holdB x ⟨kd, wh, st, fr, to_⟩ day := ⟨_, rfl⟩
  rw [← hv] at hcall ⊢
  obtain ⟨b, hb⟩ : ∃ b, b = w.heap.size := ⟨_, rfl⟩
  have hbz : b ≠ z := by have := hs.lz; omega
  have hZ : ∀ n : Nat, n ≠ z → some n ≠ some z := fun n h e => h (Option.some.inj e)
  have hK0 : LkD x z A M day w (w.alloc (.cells #[.int .i64 kd, .int .i64 wh, .int .u64 st, .int .i64 fr, .int .i64 to_] 90)).drew ∧ lkBox (w.alloc (.cells #[.int .i64 kd, .int .i64 wh, .int .u64 st, .int .i64 fr, .int .i64 to_] 90)).drew b kd wh st fr to_ ∧ Blk (w.alloc (.cells #[.int .i64 kd, .int .i64 wh, .int .u64 st, .int .i64 fr, .int .i64 to_] 90)).drew lb #[.pointer (some ⟨z, 0, none⟩)] 93 := ⟨hd.below (((Below.refl _ _).alloc (Nat.le_refl _) _).drew), Blk.at_ hb, hlb.alloc _⟩
  obtain ⟨K, hK⟩ : ∃ K : World → Prop, ∀ W, K W ↔ (LkD x z A M day w W ∧ lkBox W b kd wh st fr to_ ∧ Blk W lb #[.pointer (some ⟨z, 0, none⟩)] 93) := ⟨_, fun _ => Iff.rfl⟩
  have HX := Lib.hid (fun W (h : K W) => by
    have h := (hK W).1 h
    exact ((hcall W (hs.grown h.1.gr) h.1.self).mono fun e W' ⟨he, hh⟩ => ⟨he, (hK _).2 ⟨hh.base h.1.gr, h.2.1.grown hh.gr (hZ _ hbz), h.2.2.grown hh.gr (hZ _ hne)⟩⟩ : Calls Tryz.prog g (#[.pointer (some ⟨z, 0, none⟩), .agg #[.int .i64 kd, .int .i64 wh, .int .u64 st, .int .i64 fr, .int .i64 to_]] ++ cap) W fun e W' => e = .returned (.bool v) ∧ K W'))
  have hE1 : ∀ E : Cls K, (World.cls E).cell? ⟨lb, 0, none⟩ = some (.pointer (some ⟨z, 0, none⟩)) := fun E => ((hK _).1 E.h).2.2.cell 0
  have hE0 : ∀ E : Cls K, (World.cls E).cell? ⟨z, 4, none⟩ = some (.map (some M)) := fun E => by
    obtain ⟨sv, mv, gz, -, -⟩ := ((hK _).1 E.h).1.at_
    exact gz.cell 4
  have hE2 : ∀ E : Cls K, (World.cls E).cell? ⟨b, 0, none⟩ = some (.int .i64 kd) := fun E => ((hK _).1 E.h).2.1.cell 0
  have hE3 : ∀ E : Cls K, (World.cls E).cell? ⟨b, 1, none⟩ = some (.int .i64 wh) := fun E => ((hK _).1 E.h).2.1.cell 1
  have hE4 : ∀ E : Cls K, (World.cls E).cell? ⟨b, 2, none⟩ = some (.int .u64 st) := fun E => ((hK _).1 E.h).2.1.cell 2
  have hE5 : ∀ E : Cls K, (World.cls E).cell? ⟨b, 3, none⟩ = some (.int .i64 fr) := fun E => ((hK _).1 E.h).2.1.cell 3
  have hE6 : ∀ E : Cls K, (World.cls E).cell? ⟨b, 4, none⟩ = some (.int .i64 to_) := fun E => ((hK _).1 E.h).2.1.cell 4
  have hL : ∀ E : Cls K, (Instr.lookup 121 (.map (some M)) (.int .i64 kd) false).run Tryz.prog (World.cls E) = .ok (.func (.func g) #[] cap) (World.cls E) := fun E =>
    look_int Tryz.underlying121 Tryz.underlying87 (hs.grown ((hK _).1 E.h).1.gr).map hfind
  have HKK := Lib.hid hK
  have hne : Nonempty (Cls K) := ⟨⟨_, (hK _).2 hK0⟩⟩
  have HK0 := Lib.hid ((hK _).2 hK0)
  have HB := Lib.hid hb
  unfold Ent at hent
  clear hs hd hv hx hK hb hcall hfind hK0 hlb
  go_enter Tryz.func100, Tryz.ntmps100
  go_upto_region 1 with fail
  refine wp_region_cls K HK0.out (by kernel_rfl) (by kernel_rfl) ?_
  rw [← HB.out]
  (repeat (go_big_quiet_step (exact Calls.cls_of (HX.out _ (Cls.h _)))))
  with_reducible refine wpQuiet_nil ?_
  intro w1 hw1
  have hw2 := (HKK.out _).1 (cls_get hw1)
  clear hw1
  go_wp2
  go_ret
  exact ⟨rfl, hw2.1⟩
end Go.Proofs.YtfbnllmmoaialaaGreat

/- almanac: the days that all persons' rules allow. -/
import Derived.Test.YtfbnllmmoaialaaGreatZ14Av
namespace Go.Proofs.YtfbnllmmoaialaaGreat
open Go.RowKit
attribute [local go_sem] Oper.semAt_some

/-- a slice that lies in a block of P -/
def SlP {α : Type} (f : α → List Value) (size : Nat) (w : World) (P : Nat → Prop) (A : Option Addr) (l : List α) : Prop :=
  (flat f l).length = l.length * size ∧ (0 < l.length → ∃ b o, A = some ⟨b, o, none⟩ ∧ P b ∧ ∀ j u, (flat f l)[j]? = some u → w.cell? ⟨b, o + j, none⟩ = some u)
theorem SlP.sl {α : Type} {f : α → List Value} {size : Nat} {w : World} {P : Nat → Prop} {A : Option Addr} {l : List α} {B : Nat} (h : SlP f size w P A l) (hP : ∀ b, P b → b < B) : Sl f size w B A l :=
  ⟨h.1, fun hn => by obtain ⟨b, o, e, hb, hc⟩ := h.2 hn; exact ⟨b, o, e, hP b hb, hc⟩⟩
theorem Sl.slp {α : Type} {f : α → List Value} {size : Nat} {w : World} {P : Nat → Prop} {A : Option Addr} {l : List α} {B : Nat} (h : Sl f size w B A l) (hP : ∀ b, b < B → P b) : SlP f size w P A l :=
  ⟨h.1, fun hn => by obtain ⟨b, o, e, hb, hc⟩ := h.2 hn; exact ⟨b, o, e, hP b hb, hc⟩⟩
theorem SlP.keep {α : Type} {f : α → List Value} {size : Nat} {w w' : World} {P : Nat → Prop} {A : Option Addr} {l : List α} (h : SlP f size w P A l) (hk : ∀ p : Addr, P p.block → w'.cell? p = w.cell? p) : SlP f size w' P A l :=
  ⟨h.1, fun hn => by obtain ⟨b, o, e, hb, hc⟩ := h.2 hn; exact ⟨b, o, e, hb, fun j u hu => (hk ⟨b, o + j, none⟩ hb).trans (hc j u hu)⟩⟩
/-- the rules of persons lie in blocks of P -/
structure PsP (W : World) (P : Nat → Prop) (A : Option Addr) (ps : List DPs) : Prop where
  len : ps.length ≤ 1000000
  sl : SlP DPs.cells 1 W P A ps
  rlen : ∀ p ∈ ps, p.rules.length ≤ 1000000
  rsl : ∀ p ∈ ps, SlP DRl.cells 2 W P p.a p.rules
  tlen : ∀ p ∈ ps, ∀ r ∈ p.rules, r.when_.length ≤ 1000000
  tset : ∀ p ∈ ps, ∀ r ∈ p.rules, ∀ t ∈ r.when_, 0 ≤ t.set ∧ t.set < 18446744073709551616
  tsl : ∀ p ∈ ps, ∀ r ∈ p.rules, SlP DTs.cells 5 W P r.wa r.when_
theorem PsP.keep {w w' : World} {P : Nat → Prop} {A : Option Addr} {ps : List DPs} (h : PsP w P A ps) (hk : ∀ p : Addr, P p.block → w'.cell? p = w.cell? p) : PsP w' P A ps :=
  ⟨h.len, h.sl.keep hk, h.rlen, fun p hp => (h.rsl p hp).keep hk, h.tlen, h.tset, fun p hp r hr => (h.tsl p hp r hr).keep hk⟩
theorem PsP.rls {W : World} {P : Nat → Prop} {A : Option Addr} {ps : List DPs} {B : Nat} (h : PsP W P A ps) (hP : ∀ b, P b → b < B) (p : DPs) (hp : p ∈ ps) : RlsAt W B p.a p.rules :=
  ⟨h.rlen p hp, (h.rsl p hp).sl hP, fun r hr => ⟨h.tlen p hp r hr, h.tset p hp r hr, (h.tsl p hp r hr).sl hP⟩⟩
/-- what the iterator over days has captured, in blocks of P -/
structure DaysAt (P : Nat → Prop) (x : Alm) (ps : List DPs) (fr to_ : Int) (b1 b2 b3 b4 : Nat) (Ap : Option Addr) (cp : Nat) (W : World) : Prop where
  p1 : P b1
  p2 : P b2
  p3 : P b3
  p4 : P b4
  k1 : Blk W b1 x.cells.toArray 28
  k2 : Blk W b2 #[.int .i64 fr] 3
  k3 : Blk W b3 #[.int .i64 to_] 3
  k4 : Blk W b4 #[.slice Ap ps.length cp] 44
  cyc : SlP Cyc.cells 2 W P x.a x.cycles
  ps : PsP W P Ap ps
theorem DaysAt.keep {P : Nat → Prop} {x : Alm} {ps : List DPs} {fr to_ : Int} {b1 b2 b3 b4 : Nat} {Ap : Option Addr} {cp : Nat} {W W' : World} (h : DaysAt P x ps fr to_ b1 b2 b3 b4 Ap cp W) (hk : ∀ b, P b → b < W.heap.size → W'.heap[b]? = W.heap[b]?) (hP : ∀ b, P b → b < W.heap.size) : DaysAt P x ps fr to_ b1 b2 b3 b4 Ap cp W' := by
  have hk2 : ∀ p : Addr, P p.block → W'.cell? p = W.cell? p := fun p hp => World.cell?_of_block (hk _ hp (hP _ hp))
  exact ⟨h.p1, h.p2, h.p3, h.p4, (hk _ h.p1 h.k1.lt).trans h.k1, (hk _ h.p2 h.k2.lt).trans h.k2, (hk _ h.p3 h.k3.lt).trans h.k3, (hk _ h.p4 h.k4.lt).trans h.k4, h.cyc.keep hk2, h.ps.keep hk2⟩
/-- all persons allow a day -/
def allB (x : Alm) (ps : List DPs) (day : Int) : Bool := ps.all fun p => allowB x p.rules day
/-- the first n days from a day on that all persons allow -/
def daysN (x : Alm) (ps : List DPs) (fr : Int) (n : Nat) : List Int := ((List.range n).map fun i : Nat => fr + (i : Int)).filter (allB x ps)
def daysL (x : Alm) (ps : List DPs) (fr to_ : Int) : List Int := daysN x ps fr (to_ + 1 - fr).toNat
theorem daysN_succ (x : Alm) (ps : List DPs) (fr : Int) (n : Nat) : daysN x ps fr (n + 1) = daysN x ps fr n ++ (if allB x ps (fr + n) then [fr + n] else []) := by
  unfold daysN
  rw [List.range_succ, List.map_append, List.filter_append]
  congr 1
  simp [List.filter_cons]
theorem daysN_prefix (x : Alm) (ps : List DPs) (fr : Int) {n m : Nat} (h : n ≤ m) : ∃ t, daysN x ps fr m = daysN x ps fr n ++ t := by
  induction m with
  | zero => obtain rfl : n = 0 := by omega
            exact ⟨[], by simp⟩
  | succ m ih =>
    by_cases e : n = m + 1
    · subst e; exact ⟨[], by simp⟩
    · obtain ⟨t, ht⟩ := ih (by omega)
      exact ⟨t ++ _, by rw [daysN_succ, ht, List.append_assoc]⟩
theorem daysL_at (x : Alm) (ps : List DPs) (fr to_ : Int) {n : Nat} (h : fr + n ≤ to_) (ha : allB x ps (fr + n) = true) : (daysL x ps fr to_)[(daysN x ps fr n).length]? = some (fr + n) ∧ (daysN x ps fr n).length < (daysL x ps fr to_).length := by
  obtain ⟨t, ht⟩ := daysN_prefix x ps fr (n := n + 1) (m := (to_ + 1 - fr).toNat) (by omega)
  unfold daysL
  rw [ht, daysN_succ, if_pos ha]
  simp
/-- what the iterator over days keeps in its own blocks -/
structure DayD (P : Nat → Prop) (x : Alm) (ps : List DPs) (fr to_ : Int) (b1 b2 b3 b4 : Nat) (Ap : Option Addr) (cp : Nat) (z : Nat) (W : World) : Prop where
  at_ : DaysAt P x ps fr to_ b1 b2 b3 b4 Ap cp W
  z3 : 3 ≤ z
  lk : ∃ d0 sv mv, Blk W z (lkv (z - 3) d0 sv mv (z - 1)) 123
  alm : Blk W (z - 3) x.cells.toArray 28
  inb : Blk W (z - 2) #[.func (.func 76) #[] #[]] 117
  map : W.heap[z - 1]? = some (.map (lkMap (z - 2)) 7)
  box : Blk W (z + 1) #[.pointer (some ⟨z, 0, none⟩)] 93
  low : ∀ b, P b → b < z - 3
theorem DayD.lks {P : Nat → Prop} {x : Alm} {ps : List DPs} {fr to_ : Int} {b1 b2 b3 b4 : Nat} {Ap : Option Addr} {cp z : Nat} {W : World} (h : DayD P x ps fr to_ b1 b2 b3 b4 Ap cp z W) : LkS x z (z - 3) (z - 2) (z - 1) W := by
  obtain ⟨d0, sv, mv, hz⟩ := h.lk
  have := h.z3
  exact ⟨h.alm, h.at_.cyc.sl fun b hb => by have := h.low b hb; omega, h.inb, h.map, by omega, by omega, by omega, hz.lt⟩
theorem DayD.grown {P : Nat → Prop} {x : Alm} {ps : List DPs} {fr to_ : Int} {b1 b2 b3 b4 : Nat} {Ap : Option Addr} {cp z : Nat} {day : Int} {W W' : World} (h : DayD P x ps fr to_ b1 b2 b3 b4 Ap cp z W) (hd : LkD x z (z - 3) (z - 1) day W W') : DayD P x ps fr to_ b1 b2 b3 b4 Ap cp z W' := by
  have h3 := h.z3
  obtain ⟨_, _, _, hz⟩ := h.lk
  have hzl := hz.lt
  have hn : ∀ b : Nat, b ≠ z → some b ≠ some z := fun b hb e => hb (Option.some.inj e)
  obtain ⟨sv, mv, hg, -, -⟩ := hd.at_
  exact ⟨h.at_.keep (fun b hb hl => hd.gr.block b hl (hn b (by have := h.low b hb; omega))) (fun b hb => by have := h.low b hb; omega), h3, ⟨_, _, _, hg⟩, h.alm.grown hd.gr (hn _ (by omega)), h.inb.grown hd.gr (hn _ (by omega)),
    (hd.gr.block _ (by omega) (hn _ (by omega))).trans h.map, h.box.grown hd.gr (hn _ (by omega)), h.low⟩
/-- a block that is none of those is no matter -/
theorem DayD.keep {P : Nat → Prop} {x : Alm} {ps : List DPs} {fr to_ : Int} {b1 b2 b3 b4 : Nat} {Ap : Option Addr} {cp z : Nat} {W W' : World} (h : DayD P x ps fr to_ b1 b2 b3 b4 Ap cp z W) (hk : ∀ b, (P b ∨ (z - 3 ≤ b ∧ b ≤ z + 1)) → b < W.heap.size → W'.heap[b]? = W.heap[b]?) : DayD P x ps fr to_ b1 b2 b3 b4 Ap cp z W' := by
  obtain ⟨d0, sv, mv, hz⟩ := h.lk
  have hb := h.box.lt
  have h3 := h.z3
  exact ⟨h.at_.keep (fun b hp hl => hk b (.inl hp) hl) (fun b hp => by have := h.low b hp; omega), h3, ⟨d0, sv, mv, (hk _ (.inr (by omega)) hz.lt).trans hz⟩, (hk _ (.inr (by omega)) h.alm.lt).trans h.alm, (hk _ (.inr (by omega)) h.inb.lt).trans h.inb,
    (hk _ (.inr (by omega)) (by omega)).trans h.map, (hk _ (.inr (by omega)) hb).trans h.box, h.low⟩
theorem DayD.below {P : Nat → Prop} {x : Alm} {ps : List DPs} {fr to_ : Int} {b1 b2 b3 b4 : Nat} {Ap : Option Addr} {cp z : Nat} {W W' : World} (h : DayD P x ps fr to_ b1 b2 b3 b4 Ap cp z W) (hb : Below W.heap.size W W') : DayD P x ps fr to_ b1 b2 b3 b4 Ap cp z W' := h.keep fun b _ hl => hb.block b hl
theorem DayD.putObj {P : Nat → Prop} {x : Alm} {ps : List DPs} {fr to_ : Int} {b1 b2 b3 b4 : Nat} {Ap : Option Addr} {cp z b : Nat} {W : World} (o' : Obj) (h : DayD P x ps fr to_ b1 b2 b3 b4 Ap cp z W) (hz : b + 3 < z) (hP : ∀ b', P b' → b' < b) : DayD P x ps fr to_ b1 b2 b3 b4 Ap cp z (W.putObj b o') :=
  h.keep fun b' hb' _ => World.putObj_heap_other (by
    rcases hb' with hb' | hb'
    · have := hP b' hb'; omega
    · omega)
theorem ent_days11 : Ent 51 := ent_of (fn := Tryz.f51) (by kernel_rfl) (by kernel_rfl) (by kernel_rfl)
theorem ent_days1 : Ent 47 := ent_of (fn := Tryz.f47) (by kernel_rfl) (by kernel_rfl) (by kernel_rfl)
set_option maxRecDepth 100000 in
theorem days11_any (x : Alm) (z A f0 M lb : Nat) (day : Int) (p : DPs) (w : World) (hx : almB x = true) (d0 : 0 ≤ day) (d1 : day ≤ 1000000)
    (hs : LkS x z A f0 M w) (hd : LkD x z A M day w w) (hr : RlsAt w z p.a p.rules) (hv : ∀ r ∈ p.rules, badR x.cycles r = false) (hlb : Blk w lb #[.pointer (some ⟨z, 0, none⟩)] 93) :
    Calls Tryz.prog 51 #[.slice p.a p.rules.length p.c, .pointer (some ⟨lb, 0, none⟩)] w fun e w' => e = .returned (.bool (!allowB x p.rules day)) ∧ LkD x z A M day w w' := by
  have HC := Lib.hid (allows_any x z A f0 M day p.a p.c p.rules w hx d0 d1 hs hd hr hv)
  have c0 := hlb.cell 0
  simp at c0
  clear hs hd hr hv hlb
  go_enter Tryz.func51, Tryz.ntmps51
  go_wp2_with (go_at_call 52; refine HC.out.mono ?_; rintro _ W1 ⟨rfl, hd1⟩)
  go_ret
  exact ⟨rfl, hd1⟩
end Go.Proofs.YtfbnllmmoaialaaGreat
namespace Go.Proofs.YtfbnllmmoaialaaGreat
open Go.RowKit
attribute [local go_sem] Oper.semAt_some

/-- the day that round k is handed -/
def EncDay (L : List Int) (k : Nat) (_ : World) (xs : Array Value) : Prop := ∃ d, L[k]? = some d ∧ xs = #[.int .i64 d]
theorem all_any_not {α : Type} (p : α → Bool) (l : List α) : l.all p = !(l.any fun t => !p t) := by
  induction l with
  | nil => rfl
  | cons x l ih => rw [List.any_cons, List.all_cons, ih, Bool.not_or, Bool.not_not]
set_option maxRecDepth 100000 in
set_option maxHeartbeats 4000000 in
theorem days1_iter (P : Nat → Prop) (x : Alm) (ps : List DPs) (fr to_ : Int) (b1 b2 b3 b4 : Nat) (Ap : Option Addr) (cp B : Nat) (hx : almB x = true) (h0f : 0 ≤ fr) (hto : to_ ≤ 1000000) (hle : fr ≤ to_ + 1) (hbad : ∀ p ∈ ps, ∀ r ∈ p.rules, badR x.cycles r = false) (hP : ∀ b, P b → b < B) :
    IterZ 47 #[.pointer (some ⟨b1, 0, none⟩), .pointer (some ⟨b2, 0, none⟩), .pointer (some ⟨b3, 0, none⟩), .pointer (some ⟨b4, 0, none⟩)] 3 (fun W => B ≤ W.heap.size ∧ DaysAt P x ps fr to_ b1 b2 b3 b4 Ap cp W) (DayD P x ps fr to_ b1 b2 b3 b4 Ap cp) (EncDay (daysL x ps fr to_)) (daysL x ps fr to_).length := by
  intro l J J0 Jx W hJ0s hJs hJz hJxs hJ0D hst hY h0
  obtain ⟨hBW, hD⟩ := hJ0D W h0
  have HJs := Lib.hid hJs; have HJz := Lib.hid hJz; have HY := Lib.hid hY; have HBAD := Lib.hid hbad; have HP := Lib.hid hP
  have HST := Lib.hid hst; have HJ0 := Lib.hid (fun W' (hb : Below W.heap.size W W') => hJ0s W W' h0 hb)
  have HN := Lib.hid (newLook_any x W (hD.cyc.sl fun b hb => by have := hP b hb; omega))
  have HDA := Lib.hid hD
  have k1 := hD.k1; have k2 := hD.k2
  have hle' : ∃ N : Nat, (N : Int) = to_ + 1 - fr := ⟨(to_ + 1 - fr).toNat, by omega⟩
  obtain ⟨N, hN⟩ := hle'
  obtain ⟨A, c, cl, ⟨e, b, u⟩, ⟨d, p, f, m, y, s, k⟩⟩ := x
  obtain ⟨X, hX⟩ : ∃ X, X = (⟨A, c, cl, ⟨e, b, u⟩, ⟨d, p, f, m, y, s, k⟩⟩ : Alm) := ⟨_, rfl⟩
  rw [← hX] at HY HDA HBAD HST hx
  rw [← hX]
  have HXX := Lib.hid hX
  have HNN : Hid (Calls Tryz.prog 48 #[.agg #[.slice A cl.length c, .int .i64 e, .int .i64 b, .int .i64 u, .int .i64 d, .int .i64 p, .int .i64 f, .int .i64 m, .int .i64 y, .int .i64 s, .int .i64 k]] W fun e w' => e = .returned (.pointer (some ⟨W.heap.size + 3, 0, none⟩)) ∧ LkS X (W.heap.size + 3) W.heap.size (W.heap.size + 1) (W.heap.size + 2) w' ∧ Blk w' (W.heap.size + 3) (lkv W.heap.size 0 (.pointer none) (.pointer none) (W.heap.size + 2)) 123 ∧ Below W.heap.size W w' ∧ w'.heap.size = W.heap.size + 4) := by rw [hX]; exact HN.out
  simp only [Alm.cells] at k1
  have c0 := k1.cell 0; have c1 := k1.cell 1; have c2 := k1.cell 2; have c3 := k1.cell 3; have c4 := k1.cell 4; have c5 := k1.cell 5; have c6 := k1.cell 6; have c7 := k1.cell 7; have c8 := k1.cell 8; have c9 := k1.cell 9; have c10 := k1.cell 10
  have f0 := k2.cell 0
  simp at c0 c1 c2 c3 c4 c5 c6 c7 c8 c9 c10 f0
  have hk2l := k2.lt
  clear k1 k2 hD hJ0D hJ0s hJs hJz hY hbad hst h0 HN hX hP hJxs
  rw [← callsIn_wide (n := 2)]
  refine callsIn_of_wp Tryz.func47 rfl trivial ?_ rfl
  simp only [Tryz.ntmps47, List.size_toArray, List.length_cons, List.length_nil, Nat.reduceAdd, Nat.reduceSub, Array.replicate_succ, Array.replicate_zero, List.push_toArray, List.append_toArray, List.nil_append, List.cons_append]
  gi_wp2
  refine ⟨trivial, (callsIn_wide.2 HNN.out).mono ?_⟩
  rintro e w1 ⟨rfl, hs1, hz1, hb1, hsz1⟩
  have f1 := ((bcell hb1).1 b2 0 hk2l).trans f0
  have hb2l : b2 < w1.heap.size := Nat.lt_of_lt_of_le hk2l hb1.size
  have HS1 := Lib.hid hs1; have HZ1 := Lib.hid hz1; have HB1 := Lib.hid hb1; have HSZ1 := Lib.hid hsz1
  clear hs1 hz1 hb1 hsz1 c0 c1 c2 c3 c4 c5 c6 c7 c8 c9 c10 f0
  gi_wp2
  obtain ⟨z, hz⟩ : ∃ z, z = W.heap.size + 3 := ⟨_, rfl⟩
  have hsz : w1.heap.size = z + 1 := by rw [HSZ1.out, hz]
  rw [hsz, ← hz]
  obtain ⟨w2, hw2⟩ : ∃ w2, w2 = w1.alloc (.cells #[.pointer (some ⟨z, 0, none⟩)] 93) := ⟨_, rfl⟩
  rw [← hw2]
  have HB2 : Hid (Below W.heap.size W w2) := by rw [hw2]; exact HB1.out.alloc (by have := HB1.out.size; omega) _
  have HD2 : Hid (DayD P X ps fr to_ b1 b2 b3 b4 Ap cp z w2) := by
    have h1 := HS1.out; have h2 := HZ1.out
    rw [← hz] at h1 h2
    refine ⟨HDA.out.keep (fun b hb hl => HB2.out.block b hl) (fun b hb => by have := HP.out b hb; omega), by omega, ⟨0, .pointer none, .pointer none, ?_⟩, ?_, ?_, ?_, ?_, fun b hb => by have := HP.out b hb; omega⟩
    · rw [hw2, show z - 3 = W.heap.size by omega, show z - 1 = W.heap.size + 2 by omega]; exact h2.alloc _
    · rw [hw2, show z - 3 = W.heap.size by omega]; exact h1.alm.alloc _
    · rw [hw2, show z - 2 = W.heap.size + 1 by omega]; exact h1.inb.alloc _
    · rw [hw2, show z - 2 = W.heap.size + 1 by omega, show z - 1 = W.heap.size + 2 by omega]; exact (Below.heap_alloc _ _ _ (by omega)).trans h1.map
    · rw [hw2]; exact Blk.at_ hsz.symm
  have HJ2 : Hid (J z 0 w2) := HST.out z w2 (by omega) (by rw [hw2]; simp; omega) HD2.out (HJ0.out w2 HB2.out)
  have hzW : W.heap.size + 3 ≤ z := by omega
  clear HS1 HZ1 HB1 HSZ1 hz hsz hw2 f1 hk2l hb2l HJ0 HST HNN HB2 HDA
  gi_loopw [7] (fun i wr => ∃ n : Nat, n ≤ N ∧ i = .int .i64 (fr + (n : Int)) ∧ Hid (J z (daysN X ps fr n).length wr ∧ DayD P X ps fr to_ b1 b2 b3 b4 Ap cp z wr)) (fun i _ => (to_ + 1 - intOf i).toNat)
  case atStart => exact ⟨0, by omega, by simp, HJ2.out, HD2.out⟩
  case round =>
    obtain ⟨n, hn, rfl, hj⟩ := hrel
    have k3 := hj.out.2.at_.k3.cell 0
    simp at k3
    by_cases hlt : n < N
    · have hc : decide (fr + (n : Int) ≤ to_) = true := by simp; omega
      obtain ⟨D, hDD⟩ : ∃ D, D = fr + (n : Int) := ⟨_, rfl⟩
      have hD0 : 0 ≤ D := by omega
      have hD1 : D ≤ 1000000 := by omega
      have hDn : D ≤ to_ := by omega
      have hw1 : IntKind.i64.wrap (D + 1) = D + 1 := IntWalk.i64_in _ ⟨by omega, by omega⟩
      obtain ⟨d0, sv, mv, gz⟩ := hj.out.2.lk
      have HAT := Lib.hid (lkAt_any X z (z - 3) (z - 1) d0 D sv mv wr gz)
      have kb := hj.out.2.box.cell 0
      simp at kb
      have HDN := Lib.hid hDD
      rw [← hDD] at hc ⊢
      have hzz := gz.lt
      have hbz : z + 1 < wr.heap.size := hj.out.2.box.lt
      clear hDD gz
      gi_wp2
      refine ⟨trivial, (callsIn_wide.2 HAT.out).mono ?_⟩
      rintro e w3 ⟨rfl, hd3⟩
      have hD3 := hj.out.2.grown hd3
      have HJ3 := Lib.hid (HJz.out z _ wr w3 (by omega) hj.out.1 hd3.gr)
      have k4 := hD3.at_.k4.cell 0
      simp at k4
      obtain ⟨v, hv⟩ : ∃ v, v = ps.any fun p => !allowB X p.rules D := ⟨_, rfl⟩
      have hva : allB X ps D = !v := by
        rw [hv]; unfold allB
        exact all_any_not _ ps
      have HC := Lib.hid (panyI_any 51 #[.pointer (some ⟨z + 1, 0, none⟩)] Ap cp ps (fun p => !allowB X p.rules D) w3 (fun W' => LkD X z (z - 3) (z - 1) D w3 W') ent_days11 hD3.at_.ps.len
        (fun W' h => ((hD3.grown h).at_.ps.sl.sl fun b hb => by have := hD3.low b hb; have := hd3.gr.size; have := h.gr.size; omega))
        (fun p hp W' h => days11_any X z (z - 3) (z - 2) (z - 1) (z + 1) D p W' hx hD0 hD1 (hD3.grown h).lks h.self ((hD3.grown h).at_.ps.rls (fun b hb => by have := hD3.low b hb; omega) p hp) (HBAD.out p hp) (hD3.grown h).box |>.mono
          fun e W2 ⟨he, hh⟩ => ⟨he, hh.base h.gr⟩) hd3.self)
      rw [← hv] at HC
      have hsu := daysN_succ X ps fr n
      have hLat := fun h => daysL_at X ps fr to_ (n := n) (by have := HDN.out; omega) h
      rw [← HDN.out] at hsu hLat
      have HVA := Lib.hid hva; have HSU := Lib.hid hsu; have HLAT := Lib.hid hLat; have HD3 := Lib.hid hD3
      clear hv hva hsu hLat hD3 hd3 HAT hj k3 kb
      cases v with
      | true =>
        have HS2 : Hid (daysN X ps fr (n + 1) = daysN X ps fr n) := (by rw [HSU.out, HVA.out]; simp : daysN X ps fr (n + 1) = daysN X ps fr n)
        gi_wp2
        refine ⟨trivial, (callsIn_wide.2 HC.out).mono ?_⟩
        rintro e w4 ⟨rfl, hd4⟩
        have HD4 := Lib.hid (HD3.out.grown hd4)
        have HJ4 := Lib.hid (HJz.out z _ w3 w4 (by omega) HJ3.out hd4.gr)
        clear hd4 k4
        gi_wp2
        refine ⟨fun f h => (by cases h), ?_⟩
        gi_wp2
        go_roundw
        case rel => exact ⟨n + 1, by omega, by rw [HDN.out]; go_num, by rw [HS2.out]; exact HJ4.out, HD4.out⟩
        case measure => simp [intOf]; omega
      | false =>
        gi_wp2
        refine ⟨trivial, (callsIn_wide.2 HC.out).mono ?_⟩
        rintro e w4 ⟨rfl, hd4⟩
        have HD4 := Lib.hid (HD3.out.grown hd4)
        have HJ4 := Lib.hid (HJz.out z _ w3 w4 (by omega) HJ3.out hd4.gr)
        obtain ⟨hL1, hL2⟩ := HLAT.out (by rw [HVA.out]; rfl)
        have HS2 : Hid ((daysN X ps fr (n + 1)).length = (daysN X ps fr n).length + 1) := (by rw [HSU.out, HVA.out]; simp : (daysN X ps fr (n + 1)).length = _)
        obtain ⟨fn, tmps, assign, body, hy, hR⟩ := HY.out z _ w4 #[.int .i64 D] (by omega) hL2 HJ4.out HD4.out ⟨D, hL1, rfl⟩
        have HRR := Lib.hid hR
        clear hd4 k4 hL1 hL2 hR
        gi_wp2
        refine HRR.out.mono ?_
        rintro e W5 (⟨rfl, hJ5, hD5⟩ | ⟨rfl, hJx5⟩)
        · have HJ5 := Lib.hid hJ5; have HD5 := Lib.hid hD5
          clear hJ5 hD5
          gi_wp2
          go_roundw
          case rel => exact ⟨n + 1, by omega, by rw [HDN.out]; go_num, by rw [HS2.out]; exact HJ5.out, HD5.out⟩
          case measure => simp [intOf]; omega
        · have HJ5 := Lib.hid hJx5
          clear hJx5
          gi_wp2
          refine bodyPost_ret (results_none rfl _ _ _) rfl ?_
          exact ⟨⟨_, rfl⟩, .inr HJ5.out⟩
    · obtain rfl : n = N := by omega
      have hc : decide (fr + (n : Int) ≤ to_) = false := by simp; omega
      have HL : Hid ((daysL X ps fr to_).length = (daysN X ps fr n).length) := (by unfold daysL; rw [show (to_ + 1 - fr).toNat = n by omega] : _ = _)
      gi_wp2
      go_end0
      exact ⟨⟨_, rfl⟩, .inl ⟨z, hzW, by rw [HL.out]; exact hj.out.1⟩⟩
end Go.Proofs.YtfbnllmmoaialaaGreat
namespace Go.Proofs.YtfbnllmmoaialaaGreat
open Go.RowKit
attribute [local go_sem] Oper.semAt_some

abbrev dayF (s : Nat) : Value := .func (.func 47) #[] #[.pointer (some ⟨s, 0, none⟩), .pointer (some ⟨s + 2, 0, none⟩), .pointer (some ⟨s + 3, 0, none⟩), .pointer (some ⟨s + 1, 0, none⟩)]
theorem days_any (x : Alm) (Ap : Option Addr) (n cp : Nat) (fr to_ : Int) (w : World) :
    Calls Tryz.prog 26 #[.agg x.cells.toArray, .slice Ap n cp, .int .i64 fr, .int .i64 to_] w fun e w' => e = .returned (dayF w.heap.size) ∧ Blk w' w.heap.size x.cells.toArray 28 ∧ Blk w' (w.heap.size + 1) #[.slice Ap n cp] 44 ∧ Blk w' (w.heap.size + 2) #[.int .i64 fr] 3 ∧ Blk w' (w.heap.size + 3) #[.int .i64 to_] 3 ∧ Below w.heap.size w w' ∧ w'.heap.size = w.heap.size + 4 := by
  obtain ⟨A, c, l, ⟨e, b, u⟩, ⟨d, p, f, m, y, s, k⟩⟩ := x
  simp only [Alm.cells]
  go_enter Tryz.func26, Tryz.ntmps26
  go_wp2
  go_ret
  exact ⟨rfl, (((Blk.at_ rfl).alloc _).alloc _).alloc _, ((Blk.at_ (by simp)).alloc _).alloc _, (Blk.at_ (by simp)).alloc _, Blk.at_ (by simp), by (repeat (first | exact Below.refl _ _ | assumption | (refine Below.alloc ?_ (by first | omega | (simp; omega) | (simp; done)) _) | (refine Below.setCell ?_ (by first | omega | (simp; omega) | (simp; done)) _) | (refine Below.drew ?_) | (refine belowN ?_ _) | (refine Below.trans ?_ (Below.mono ‹Below _ _ _› (by first | omega | (simp; omega) | (simp; done)))))), by simp⟩
/-- the first of some days, or the error -/
def firstR : List Int → Int × Int
  | [] => (0, 7)
  | d :: _ => (d, 0)
theorem round1 (T : Array Value) (p q : Tmp) (x : Value) : roundAct T #[p] [(q, 0)] #[x] = { tmps := (T.setIfInBounds p x).setIfInBounds q x, defers := [] } := by simp [roundAct]
set_option maxRecDepth 100000 in
set_option maxHeartbeats 2000000 in
theorem first_any (P : Nat → Prop) (x : Alm) (ps : List DPs) (fr to_ : Int) (s : Nat) (Ap : Option Addr) (cp : Nat) (w : World) (hx : almB x = true) (h0f : 0 ≤ fr) (hto : to_ ≤ 1000000) (hle : fr ≤ to_ + 1) (hbad : ∀ p ∈ ps, ∀ r ∈ p.rules, badR x.cycles r = false)
    (hP : ∀ b, P b → b < w.heap.size) (hD : DaysAt P x ps fr to_ s (s + 2) (s + 3) (s + 1) Ap cp w) :
    Calls Tryz.prog 25 #[dayF s] w fun e w' => e = .returned (.tuple #[.int .i64 (firstR (daysL x ps fr to_)).1, .int .i64 (firstR (daysL x ps fr to_)).2]) ∧ Below w.heap.size w w' := by
  obtain ⟨L, hL⟩ : ∃ L, L = daysL x ps fr to_ := ⟨_, rfl⟩
  have hit := days1_iter P x ps fr to_ s (s + 2) (s + 3) (s + 1) Ap cp w.heap.size hx h0f hto hle hbad hP
  rw [← hL] at hit ⊢
  have HD := Lib.hid hD; have HP := Lib.hid hP; have HIT := Lib.hid hit
  clear hL hbad hx hD hP hit
  refine calls_marks Tryz.func25 rfl ?_
  simp only [Tryz.ntmps25, List.size_toArray, List.length_cons, List.length_nil, Nat.reduceAdd, Nat.reduceSub, Array.replicate_succ, Array.replicate_zero, List.push_toArray, List.append_toArray, List.nil_append, List.cons_append]
  go_wp2
  obtain ⟨b2, hb2⟩ : ∃ b, b = w.heap.size := ⟨_, rfl⟩
  rw [← hb2]
  refine gen_w (fun W => W.heap.size = b2 + 1 + 1 ∧ Below w.heap.size w W ∧ Blk W b2 #[.int .i64 0] 3 ∧ Blk W (b2 + 1) #[.int .i64 0] 35) ⟨by simp [hb2], by (repeat (first | exact Below.refl _ _ | assumption | (refine Below.alloc ?_ (by first | omega | (simp; omega) | (simp; done)) _) | (refine Below.setCell ?_ (by first | omega | (simp; omega) | (simp; done)) _) | (refine Below.drew ?_) | (refine belowN ?_ _) | (refine Below.trans ?_ (Below.mono ‹Below _ _ _› (by first | omega | (simp; omega) | (simp; done)))))), (Blk.at_ hb2).alloc _, Blk.at_ (by simp [hb2])⟩ ?_
  rintro V ⟨hVz, hV, g2, g3⟩
  have hbw : w.heap.size ≤ b2 := by omega
  have hPb : ∀ b, P b → b < b2 := fun b hb => by have := HP.out b hb; omega
  have HV := Lib.hid hV; have HG2 := Lib.hid g2; have HG3 := Lib.hid g3; have HPB := Lib.hid hPb
  have hvz : b2 + 1 < V.heap.size := by omega
  clear hb2 hVz hV g2 g3 hPb
  refine wp_rangeSZ (lb := #[.pointer (some ⟨s, 0, none⟩), .pointer (some ⟨s + 2, 0, none⟩), .pointer (some ⟨s + 3, 0, none⟩), .pointer (some ⟨s + 1, 0, none⟩)]) rfl ent_days1 HIT.out [(4, 0)]
    (fun z k W => k = 0 ∧ Below w.heap.size w W ∧ Blk W b2 #[.int .i64 0] 3 ∧ Blk W (b2 + 1) #[.int .i64 0] 35)
    (fun c W => c = .ret ∧ ∃ d, L[0]? = some d ∧ Below w.heap.size w W ∧ Blk W b2 #[.int .i64 d] 3 ∧ Blk W (b2 + 1) #[.int .i64 0] 35)
    (fun z k hz => (StabZ.pure _).and ((StabZ.low (by omega) _ (Nat.le_refl _)).and ((StabZ.blk _ (by omega) _ _ _).and (StabZ.blk _ (by omega) _ _ _))))
    (fun c => (Stab.pure _).and (Stab.ex fun d => (Stab.pure _).and ((Stab.low (by omega) _ (Nat.le_refl _)).and ((Stab.blk _ _ _ _).and (Stab.blk _ _ _ _)))))
    (fun z W b o' hz h1 h2 hd => hd.putObj _ (by omega) (fun b' hb' => by have := HPB.out b' hb'; omega)) ?hE ?hD0 ?h0 ?hps ?hassign ?hbody ?hdone ?hstop
  case hE => exact fun k xs => Stab.ex fun d => (Stab.pure _).and (Stab.pure _)
  case hD0 => exact fun W hb => ⟨by have := hb.size; omega, HD.out.keep (fun b hp hl => (HV.out.trans (hb.mono (by omega))).block b hl) HP.out⟩
  case h0 => exact fun z W hz hzW hb => ⟨rfl, HV.out.trans (hb.mono (by omega)), HG2.out.below hb (by omega), HG3.out.below hb (by omega)⟩
  case hps => rintro k W xs ⟨d, _, rfl⟩; rfl
  case hassign =>
    rintro l k xs W K ⟨d, _, rfl⟩ hK
    rw [round1] at hK
    rw [fold1]
    simp only [List.setIfInBounds_toArray, List.set_cons_succ, List.set_cons_zero] at hK ⊢
    gi_wp2
    exact hK
  case hbody =>
    rintro l z k xs W hz hk ⟨rfl, hb, g2, g3⟩ hDD ⟨d, hd, rfl⟩ hl2 hl3
    rw [round1]
    simp only [List.setIfInBounds_toArray, List.set_cons_succ, List.set_cons_zero]
    have c2 := g2.cell 0; have c3 := g3.cell 0; have f2 := g2.free 0; have f3 := g3.free 0
    simp at c2 c3
    have HD1 := Lib.hid hd; have HB := Lib.hid hb
    have m2 := Lib.hid ((g2.set 0 (.int .i64 d)).far ⟨b2 + 1, 0, none⟩ (by show b2 ≠ b2 + 1; omega) (.int .i64 0))
    have m3 := Lib.hid ((g3.far ⟨b2, 0, none⟩ (by show b2 + 1 ≠ b2; omega) (.int .i64 d)).set 0 (.int .i64 0))
    clear hd hb g2 g3 hDD
    gi_wp2
    exact ⟨((KeepsOthers.setCell _ _ _).from _).trans ((KeepsOthers.setCell _ _ _).from _), rfl, d, HD1.out, (HB.out.setCell (by show w.heap.size ≤ b2; omega) _).setCell (by show w.heap.size ≤ b2 + 1; omega) _, m2.out, m3.out⟩
  case hdone =>
    rintro z D W hz ⟨hN, hb, g2, g3⟩ hD hDW
    have HL : Hid (firstR L = (0, 7)) := (by rw [List.length_eq_zero_iff.1 hN]; rfl : firstR L = (0, 7))
    have c2 := g2.cell 0; have c3 := g3.cell 0; have f2 := g2.free 0; have f3 := g3.free 0
    simp at c2 c3
    have HB := Lib.hid hb; have HG2 := Lib.hid g2; have HG3 := Lib.hid g3; have HDW := Lib.hid hDW
    clear hb g2 g3 hDW hN
    go_wp2
    have hK2 := ((KeepsOthers.setCell W ⟨b2, 0, none⟩ (.int .i64 0)).trans (KeepsOthers.setCell _ ⟨b2 + 1, 0, none⟩ (.int .i64 7))).same _ _ HDW.out rfl
    have m2 := ((HG2.out.set 0 (.int .i64 0)).far ⟨b2 + 1, 0, none⟩ (by show b2 ≠ b2 + 1; omega) (.int .i64 7)).putObj (o' := .deferred none) hK2 rfl
    have m3 := ((HG3.out.far ⟨b2, 0, none⟩ (by show b2 + 1 ≠ b2; omega) (.int .i64 0)).set 0 (.int .i64 7)).putObj (o' := .deferred none) hK2 rfl
    have x2 := m2.cell 0; have x3 := m3.cell 0
    simp at x2 x3
    refine marks_ret1 (v := .tuple #[.int .i64 0, .int .i64 7]) rfl hK2 (by simp [results, Tryz.results25, go_sem, x2, x3]) ?_
    rw [HL.out]
    exact ⟨rfl, below_putObj ((HB.out.setCell (by show w.heap.size ≤ b2; omega) _).setCell (by show w.heap.size ≤ b2 + 1; omega) _) (by omega) hK2 _⟩
  case hstop =>
    rintro D c W ⟨rfl, d, hd, hb, g2, g3⟩ hD hDW
    have HL : Hid (firstR L = (d, 0)) := (by
      cases L with
      | nil => simp at hd
      | cons q l => simp at hd; subst hd; rfl : firstR L = (d, 0))
    refine wp_ret ?_
    have m2 := g2.putObj (o' := .deferred none) hDW rfl
    have m3 := g3.putObj (o' := .deferred none) hDW rfl
    have x2 := m2.cell 0; have x3 := m3.cell 0
    simp at x2 x3
    refine marks_ret1 (v := .tuple #[.int .i64 d, .int .i64 0]) rfl hDW (by simp [results, Tryz.results25, go_sem, x2, x3]) ?_
    rw [HL.out]
    exact ⟨rfl, below_putObj hb (by omega) hDW _⟩
end Go.Proofs.YtfbnllmmoaialaaGreat
namespace Go.Proofs.YtfbnllmmoaialaaGreat
open Go.RowKit
attribute [local go_sem] Oper.semAt_some

theorem PsP.one {W : World} {B bs c2 : Nat} {A2 : Option Addr} {rs : List DRl} {P : Nat → Prop} {t : TypeId} (h : RlsAt W B A2 rs) (hP : ∀ b, b < B → P b) (hb : Blk W bs #[.slice A2 rs.length c2] t) (hbs : P bs) : PsP W P (some ⟨bs, 0, none⟩) [⟨A2, c2, rs⟩] := by
  refine ⟨by simp, ⟨rfl, fun _ => ⟨bs, 0, rfl, hbs, fun j u hu => ?_⟩⟩, ?_, ?_, ?_, ?_, ?_⟩
  · have := hb.cell j
    rw [Nat.zero_add, this]
    simpa [flat, DPs.cells] using hu
  · intro p hp; simp only [List.mem_singleton] at hp; subst hp; exact h.len
  · intro p hp; simp only [List.mem_singleton] at hp; subst hp; exact h.sl.slp hP
  · intro p hp r hr; simp only [List.mem_singleton] at hp; subst hp; exact (h.rul r hr).len
  · intro p hp r hr; simp only [List.mem_singleton] at hp; subst hp; exact (h.rul r hr).set
  · intro p hp r hr; simp only [List.mem_singleton] at hp; subst hp; exact (h.rul r hr).sl.slp hP
/-- the allowed days of a span -/
def spanL (x : Alm) (rs : List DRl) (fr to_ : Int) : List Int := daysL x [⟨none, 0, rs⟩] fr to_
theorem spanL_eq (x : Alm) (rs : List DRl) (A2 : Option Addr) (c2 : Nat) (fr to_ : Int) : daysL x [⟨A2, c2, rs⟩] fr to_ = spanL x rs fr to_ := rfl
def nextR (x : Alm) (rs : List DRl) (fr to_ : Int) : Int × Int := if bothE x rs = 0 then (if spanB fr to_ then firstR (spanL x rs fr to_) else (0, 3)) else (0, bothE x rs)
theorem spanB_iff {a b : Int} : spanB a b = true ↔ (0 ≤ a ∧ a ≤ 1000000) ∧ (0 ≤ b ∧ b ≤ 1000000) ∧ 0 ≤ b - a ∧ b - a ≤ 4000 := by
  simp only [spanB, Bool.and_eq_true, inB_iff]
  constructor
  · rintro ⟨⟨h1, h2⟩, h3⟩; exact ⟨h1, h2, h3⟩
  · rintro ⟨h1, h2, h3⟩; exact ⟨⟨h1, h2⟩, h3⟩
theorem isSpan_val {a b : Int} {v : Bool} (h : spanB a b = v) (w : World) : Calls Tryz.prog 24 #[.int .i64 a, .int .i64 b] w fun e w' => e = .returned (.bool v) ∧ Below w.heap.size w w' := h ▸ isSpan_any a b w
set_option maxRecDepth 100000 in
set_option maxHeartbeats 4000000 in
theorem nextF_any (x : Alm) (A2 : Option Addr) (c2 : Nat) (rs : List DRl) (fr to_ : Int) (w : World) (hl : x.cycles.length ≤ 1000000) (hc : Sl Cyc.cells 2 w w.heap.size x.a x.cycles) (hr : RlsAt w w.heap.size A2 rs) :
    Calls Tryz.prog 7 #[.agg x.cells.toArray, .slice A2 rs.length c2, .int .i64 fr, .int .i64 to_] w fun e w' => e = .returned (.tuple #[.int .i64 (nextR x rs fr to_).1, .int .i64 (nextR x rs fr to_).2]) ∧ Below w.heap.size w w' := by
  obtain ⟨v, hv⟩ : ∃ v, v = bothE x rs := ⟨_, rfl⟩
  have HBO := Lib.hid (fun W (hW : Below w.heap.size w W) => both_val (A2 := A2) (c2 := c2) hv.symm W hl ((hc.below hW).more hW.size) ((hr.below hW).more hW.size))
  by_cases h0 : v = 0
  · subst h0
    obtain ⟨hx, h30, hbad⟩ := bothE_zero hv.symm
    cases hd : spanB fr to_ with
    | false =>
      have HSP := Lib.hid (fun W => isSpan_val hd W)
      have HT : Hid (nextR x rs fr to_ = (0, 3)) := (by unfold nextR; rw [← hv, if_pos rfl, hd]; rfl : nextR x rs fr to_ = _)
      clear hv hd hc hr hx hbad
      obtain ⟨A, c, l, ⟨e, b, u⟩, ⟨d, p, f, m, y, s, k⟩⟩ := x
      simp only [Alm.cells] at *
      go_enter Tryz.func7, Tryz.ntmps7
      go_wp2_with (first | (go_at_call 23; refine (HBO.out _ (by (repeat (first | exact Below.refl _ _ | assumption | (refine Below.alloc ?_ (by first | omega | (simp; omega) | (simp; done)) _) | (refine Below.setCell ?_ (by first | omega | (simp; omega) | (simp; done)) _) | (refine Below.drew ?_) | (refine belowN ?_ _) | (refine Below.trans ?_ (Below.mono ‹Below _ _ _› (by first | omega | (simp; omega) | (simp; done)))))))).mono ?_; rintro _ W1 ⟨rfl, hb1⟩; have hw1 : Below w.heap.size w W1 := bl2 (by (repeat (first | exact Below.refl _ _ | assumption | (refine Below.alloc ?_ (by first | omega | (simp; omega) | (simp; done)) _) | (refine Below.setCell ?_ (by first | omega | (simp; omega) | (simp; done)) _) | (refine Below.drew ?_) | (refine belowN ?_ _) | (refine Below.trans ?_ (Below.mono ‹Below _ _ _› (by first | omega | (simp; omega) | (simp; done))))))) hb1) | (go_at_call 24; refine (HSP.out _).mono ?_; rintro _ W2 ⟨rfl, hb2⟩; have hw2 := bl2 hw1 hb2))
      refine bodyPost_ret (v := .tuple #[.int .i64 0, .int .i64 3]) (by simp [results, Tryz.results7, go_sem]) rfl ?_
      rw [HT.out]
      exact ⟨rfl, hw2⟩
    | true =>
      have HSP := Lib.hid (fun W => isSpan_val hd W)
      obtain ⟨⟨q1, q2⟩, ⟨q3, q4⟩, q5, q6⟩ := spanB_iff.1 hd
      obtain ⟨R, hR⟩ : ∃ R, R = firstR (spanL x rs fr to_) := ⟨_, rfl⟩
      have HT : Hid (nextR x rs fr to_ = R) := (by unfold nextR; rw [← hv, if_pos rfl, hd, if_pos rfl, hR] : nextR x rs fr to_ = _)
      have HDY := Lib.hid (fun Ap W => days_any x Ap 1 1 fr to_ W)
      have HFI := Lib.hid (fun s bs W (hW : Below w.heap.size w W) (gs : Blk W bs #[.slice A2 rs.length c2] 29) (g0 : Blk W s x.cells.toArray 28) (g1 : Blk W (s + 1) #[.slice (some ⟨bs, 0, none⟩) 1 1] 44) (g2 : Blk W (s + 2) #[.int .i64 fr] 3) (g3 : Blk W (s + 3) #[.int .i64 to_] 3) => by
        have h := first_any (fun b => b < W.heap.size) x [⟨A2, c2, rs⟩] fr to_ s (some ⟨bs, 0, none⟩) 1 W hx q1 q4 (by omega) (fun p hp r hr => by simp only [List.mem_singleton] at hp; subst hp; exact hbad r hr) (fun b hb => hb)
          ⟨g0.lt, g2.lt, g3.lt, g1.lt, g0, g2, g3, g1, ((hc.below hW).more hW.size).slp (fun b hb => hb), PsP.one ((hr.below hW).more hW.size) (fun b hb => hb) gs gs.lt⟩
        rw [spanL_eq, ← hR] at h
        exact (h : Calls Tryz.prog 25 #[dayF s] W fun e w' => e = .returned (.tuple #[.int .i64 R.1, .int .i64 R.2]) ∧ Below W.heap.size W w'))
      obtain ⟨n, hn⟩ : ∃ n, n = rs.length := ⟨_, rfl⟩
      rw [← hn] at HBO HFI ⊢
      obtain ⟨r1, r2⟩ := R
      clear hv hd hc hr hx hbad hn hR
      obtain ⟨A, c, l, ⟨e, b, u⟩, ⟨d, p, f, m, y, s, k⟩⟩ := x
      simp only [Alm.cells] at HBO HDY HFI ⊢
      go_enter Tryz.func7, Tryz.ntmps7
      go_upto_region 6 with (first | (go_at_call 23; refine (HBO.out _ (by (repeat (first | exact Below.refl _ _ | assumption | (refine Below.alloc ?_ (by first | omega | (simp; omega) | (simp; done)) _) | (refine Below.setCell ?_ (by first | omega | (simp; omega) | (simp; done)) _) | (refine Below.drew ?_) | (refine belowN ?_ _) | (refine Below.trans ?_ (Below.mono ‹Below _ _ _› (by first | omega | (simp; omega) | (simp; done)))))))).mono ?_; rintro _ W1 ⟨rfl, hb1⟩; have hw1 : Below w.heap.size w W1 := bl2 (by (repeat (first | exact Below.refl _ _ | assumption | (refine Below.alloc ?_ (by first | omega | (simp; omega) | (simp; done)) _) | (refine Below.setCell ?_ (by first | omega | (simp; omega) | (simp; done)) _) | (refine Below.drew ?_) | (refine belowN ?_ _) | (refine Below.trans ?_ (Below.mono ‹Below _ _ _› (by first | omega | (simp; omega) | (simp; done))))))) hb1) | (go_at_call 24; refine (HSP.out _).mono ?_; rintro _ W2 ⟨rfl, hb2⟩; have hw2 := bl2 hw1 hb2))
      obtain ⟨b3, hb3⟩ : ∃ n, n = w.heap.size := ⟨_, rfl⟩
      have ga : Blk W2 b3 #[.slice A l.length c, .int .i64 e, .int .i64 b, .int .i64 u, .int .i64 d, .int .i64 p, .int .i64 f, .int .i64 m, .int .i64 y, .int .i64 s, .int .i64 k] 28 := ((Blk.at_ hb3).below hb1 (by simp; omega)).below hb2 (by have := hb1.size; simp at this; omega)
      rw [← hb3]
      clear hb3
      (have z0 := ga.cell 0; have z1 := ga.cell 1; have z2 := ga.cell 2; have z3 := ga.cell 3; have z4 := ga.cell 4; have z5 := ga.cell 5; have z6 := ga.cell 6; have z7 := ga.cell 7; have z8 := ga.cell 8; have z9 := ga.cell 9; have z10 := ga.cell 10; simp at z0 z1 z2 z3 z4 z5 z6 z7 z8 z9 z10)
      clear hb1 hb2 hw1
      go_wp2_with fail
      obtain ⟨bs, hbs⟩ : ∃ n, n = W2.heap.size := ⟨_, rfl⟩
      have gs : Blk (W2.alloc (.cells #[.slice A2 n c2] 29)) bs #[.slice A2 n c2] 29 := Blk.at_ hbs
      have hw4 : Below w.heap.size w (W2.alloc (.cells #[.slice A2 n c2] 29)) := bla hw2
      rw [← hbs]
      clear hbs ga z0 z1 z2 z3 z4 z5 z6 z7 z8 z9 z10
      generalize W2.alloc (.cells #[.slice A2 n c2] 29) = W4 at gs hw4 ⊢
      clear hw2
      refine (HDY.out _ _).mono ?_
      rintro _ W3 ⟨rfl, g0, g1, g2, g3, hb3, -⟩
      have gs := gs.below hb3 gs.lt
      have hw3 := bl2 hw4 hb3
      obtain ⟨sz, hsz⟩ : ∃ n, n = W4.heap.size := ⟨_, rfl⟩
      rw [← hsz] at g0 g1 g2 g3 ⊢
      have HFF := Lib.hid (HFI.out _ _ _ hw3 gs g0 g1 g2 g3)
      clear hsz g0 g1 g2 g3 hb3 gs hw4 HFI HDY HBO HSP
      go_wp2_with (go_at_call 25; refine HFF.out.mono ?_; rintro _ W5 ⟨rfl, hb5⟩)
      refine bodyPost_ret (v := .tuple #[.int .i64 r1, .int .i64 r2]) (by simp [results, Tryz.results7, go_sem]) rfl ?_
      rw [HT.out]
      exact ⟨rfl, bl2 hw3 hb5⟩
  · have hne : (v != 0) = true := by simpa using h0
    have HT : Hid (nextR x rs fr to_ = (0, v)) := (by unfold nextR; rw [← hv, if_neg h0] : nextR x rs fr to_ = _)
    clear hv hc hr
    obtain ⟨A, c, l, ⟨e, b, u⟩, ⟨d, p, f, m, y, s, k⟩⟩ := x
    simp only [Alm.cells] at *
    go_enter Tryz.func7, Tryz.ntmps7
    go_wp2_with (go_at_call 23; refine (HBO.out _ (by (repeat (first | exact Below.refl _ _ | assumption | (refine Below.alloc ?_ (by first | omega | (simp; omega) | (simp; done)) _) | (refine Below.setCell ?_ (by first | omega | (simp; omega) | (simp; done)) _) | (refine Below.drew ?_) | (refine belowN ?_ _) | (refine Below.trans ?_ (Below.mono ‹Below _ _ _› (by first | omega | (simp; omega) | (simp; done)))))))).mono ?_; rintro _ W1 ⟨rfl, hb1⟩; have hw1 : Below w.heap.size w W1 := bl2 (by (repeat (first | exact Below.refl _ _ | assumption | (refine Below.alloc ?_ (by first | omega | (simp; omega) | (simp; done)) _) | (refine Below.setCell ?_ (by first | omega | (simp; omega) | (simp; done)) _) | (refine Below.drew ?_) | (refine belowN ?_ _) | (refine Below.trans ?_ (Below.mono ‹Below _ _ _› (by first | omega | (simp; omega) | (simp; done))))))) hb1)
    refine bodyPost_ret (v := .tuple #[.int .i64 0, .int .i64 v]) (by simp [results, Tryz.results7, go_sem]) rfl ?_
    rw [HT.out]
    exact ⟨rfl, hw1⟩
end Go.Proofs.YtfbnllmmoaialaaGreat

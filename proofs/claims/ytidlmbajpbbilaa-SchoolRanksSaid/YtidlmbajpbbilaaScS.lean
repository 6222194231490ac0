/- School: Gloss. -/
import Derived.Test.YtidlmbajpbbilaaScR
namespace Go.Proofs.Ytidlmbajpbbilaa
open Go.RowKit
attribute [local go_sem] Oper.semAt_some

/-- the frame of a round whose variable j lies in a new block b -/
abbrev roundActB (T : Array Value) (ps : Array Tmp) (sl : List (Tmp × Nat)) (q : Tmp) (b : Nat) (xs : Array Value) : Act :=
  { tmps := (sl.foldl (fun t (p, i) => t.setIfInBounds p (xs.getD i undef)) ((ps.zip xs).foldl (fun t (p, v) => t.setIfInBounds p v) T)).setIfInBounds q (.pointer (some ⟨b, 0, none⟩)), defers := [] }
theorem wp_rangeB {g : Operand} {ps : Array Tmp} {assign body : Code} {Q : Exit → Act → World → Prop} {a : Act} {w : World} {gf : Nat} {lb : Array Value}
    (hg : a.eval g = .func (.func gf) #[] lb) (eg : Ent gf) {D : World → Prop} {Enc : Nat → World → Array Value → Prop} {N : Nat} (hit : Iter gf lb D Enc N)
    (sl : List (Tmp × Nat)) (q : Tmp) (j : Nat) (ty : TypeId) (I : Nat → World → Prop) (Ix : Code → World → Prop)
    (hI : ∀ k, Stab w.heap.size (I k)) (hIx : ∀ c, Stab w.heap.size (Ix c)) (hE : ∀ k xs, Stab w.heap.size (fun W => Enc k W xs)) (hD : ∀ k W, I k W → D W) (h0 : I 0 w)
    (hps : ∀ k W xs, Enc k W xs → xs.size = ps.size)
    (hassign : ∀ l k xs W (K : Act → World → Prop), Enc k W xs → K (roundActB a.tmps ps sl q W.heap.size xs) (W.alloc (.cells #[xs.getD j undef] ty)) → assign.wpIn (Fence.wide.inRound l) 1 Try.prog (Exit.then K (fun _ _ _ => False)) { tmps := (ps.zip xs).foldl (fun t (p, v) => t.setIfInBounds p v) a.tmps, defers := [] } W)
    (hbody : ∀ l k xs b W, k < N → I k W → Enc k W xs → Blk W b #[xs.getD j undef] ty → w.heap.size < l → l < W.heap.size → body.wpIn (Fence.wide.inRound l) 1 Try.prog (roundOut w.heap.size (I (k + 1)) Ix W) (roundActB a.tmps ps sl q b xs) W)
    (hdone : ∀ D W, I N W → w.heap.size ≤ D → W.heap[D]? = some (.deferred (some [])) → Q .normal { a with defers := { target := .collected D, args := #[] } :: a.defers } W)
    (hstop : ∀ D c W, Ix c W → w.heap.size ≤ D → W.heap[D]? = some (.deferred (some [])) → c.wp Try.prog Q { a with defers := { target := .collected D, args := #[] } :: a.defers } W) :
    (Code.rangeFunc g ps assign body).wp Try.prog Q a w := by
  refine wp_range hg eg hit I Ix (fun k a₁ W => I k W ∧ ∃ xs b, Enc k W xs ∧ Blk W b #[xs.getD j undef] ty ∧ a₁ = roundActB a.tmps ps sl q b xs) hI hIx
    (fun k a₁ => (hI k).and (Stab.ex fun xs => Stab.ex fun b => (hE k xs).and ((Stab.blk _ _ _ _).and (Stab.pure _)))) hD h0
    (fun k W xs _ _ h => hps k W xs h) (fun l k xs W hk hi he h1 h2 => ?_) (fun l k a₁ W hk hax h1 h2 => ?_) hdone hstop
  · refine wpIn_mono (hassign l k xs W (fun a₁ W' => a₁ = roundActB a.tmps ps sl q W.heap.size xs ∧ W' = W.alloc (.cells #[xs.getD j undef] ty)) he ⟨rfl, rfl⟩) ?_
    intro e a₁ W' hp
    have hb : Below W.heap.size W (W.alloc (.cells #[xs.getD j undef] ty)) := (Below.refl _ _).alloc (Nat.le_refl _) _
    cases e with
    | normal => obtain ⟨rfl, rfl⟩ := hp; exact ⟨keepsFrom_below hb, (hI k).below hi hb, xs, W.heap.size, (hE k xs).below he hb, Blk.at_ rfl, rfl⟩
    | ret => exact hp.elim
    | exit id => exact hp.elim
    | goto t => exact hp.elim
    | panic ch => exact hp.elim
    | outgrown => exact hp.elim
  · obtain ⟨hi, xs, b, he, hbk, rfl⟩ := hax
    exact hbody l k xs b W hk hi he hbk h1 h2
theorem round2B (T : Array Value) (p q r s : Tmp) (b : Nat) (x y : Value) : roundActB T #[p, q] [(r, 0)] s b #[x, y] = { tmps := (((T.setIfInBounds p x).setIfInBounds q y).setIfInBounds r x).setIfInBounds s (.pointer (some ⟨b, 0, none⟩)), defers := [] } := by simp [roundActB]

def Cas.reads (w : World) (B : Nat) (c : Cas) : Prop := (∃ a cap, c.v = .slice a c.when_.length cap ∧ Sl Tst.cells 4 w B a c.when_) ∧ c.when_.length ≤ 1000000 ∧ ∀ t ∈ c.when_, t.ok
def CasRead (w : World) (B : Nat) (A : Option Addr) (cs : List Cas) : Prop := Sl Cas.cells 2 w B A cs ∧ cs.length ≤ 1000000 ∧ ∀ c ∈ cs, c.reads w B
theorem Cas.reads.below {w w' : World} {B : Nat} {c : Cas} (h : c.reads w B) (hb : Below B w w') : c.reads w' B := by
  obtain ⟨⟨a, cap, h1, h2⟩, h3⟩ := h; exact ⟨⟨a, cap, h1, h2.below hb⟩, h3⟩
theorem Cas.reads.more {w : World} {B B' : Nat} {c : Cas} (h : c.reads w B) (hb : B ≤ B') : c.reads w B' := by
  obtain ⟨⟨a, cap, h1, h2⟩, h3⟩ := h; exact ⟨⟨a, cap, h1, h2.more hb⟩, h3⟩
theorem CasRead.below {w w' : World} {B : Nat} {A : Option Addr} {cs : List Cas} (h : CasRead w B A cs) (hb : Below B w w') : CasRead w' B A cs := ⟨h.1.below hb, h.2.1, fun c hc => (h.2.2 c hc).below hb⟩
theorem CasRead.more {w : World} {B B' : Nat} {A : Option Addr} {cs : List Cas} (h : CasRead w B A cs) (hb : B ≤ B') : CasRead w B' A cs := ⟨h.1.more hb, h.2.1, fun c hc => (h.2.2 c hc).more hb⟩
/-- is a case valid -/
def casB (s : Sch) (c : Cas) : Bool := testsB s c.when_ && inB c.says 0 (s.answers - 1)

theorem ent_gloss1 : Ent 65 := ent_of Try.func65 (by kernel_rfl) rfl
theorem ent_gloss2 : Ent 68 := ent_of Try.func68 (by kernel_rfl) rfl
theorem gloss1_any (s : Sch) (R : Value) (c : Cas) (B : Nat) (W : World) (hs : Small s) (ha : 1 ≤ s.answers) (ha' : s.answers ≤ 20) (hc : c.reads W W.heap.size) (hbx : ScBox W B s R) :
    Calls Try.prog 65 (#[Value.agg #[c.v, .int .i64 c.says]] ++ #[.pointer (some ⟨B, 0, none⟩)]) W fun e W' => e = .returned (.bool (!casB s c)) ∧ Below W.heap.size W W' := by
  obtain ⟨hB, h0, h1, h2, h3, h4⟩ := hbx
  obtain ⟨⟨A, cap, hv, hsl⟩, hl, hok⟩ := hc
  have HT := fun (W' : World) (hW : Below W.heap.size W W') => Lib.hid (areTests_any s R A cap c.when_ W' hs hl hok ((hsl.below hW).more hW.size))
  obtain ⟨cv, ts, says⟩ := c
  simp only at hv HT hl ⊢
  subst hv
  have CB : Hid (casB s ⟨.slice A ts.length cap, ts, says⟩ = (testsB s ts && inB says 0 (s.answers - 1))) := (rfl : casB s ⟨.slice A ts.length cap, ts, says⟩ = _)
  obtain ⟨cb, hcb⟩ : ∃ b, b = casB s ⟨.slice A ts.length cap, ts, says⟩ := ⟨_, rfl⟩
  rw [← hcb] at CB ⊢
  clear hcb hsl hok hs
  obtain ⟨tb, htb⟩ : ∃ b, b = testsB s ts := ⟨_, rfl⟩
  rw [← htb] at HT CB
  clear htb
  obtain ⟨p, sg, k, a, ra, rc, rs⟩ := s
  simp only at *
  cases tb
  · go_enter Try.func65, Try.ntmps65
    go_wp2_with fail
    refine ((HT _ (by (repeat (first | exact Below.refl _ _ | assumption | (refine Below.alloc ?_ (by first | omega | (simp; omega) | (simp; done)) _) | (refine Below.setCell ?_ (by first | omega | (simp; omega) | (simp; done)) _) | (refine Below.drew ?_) | (refine belowN ?_ _) | (refine Below.trans ?_ (Below.mono ‹Below _ _ _› (by first | omega | (simp; omega) | (simp; done)))))))).out).mono ?_
    rintro e w1 ⟨rfl, hb1⟩
    go_wp2
    go_ret
    exact ⟨ret_bool (by rw [CB.out]; rfl), by (repeat (first | exact Below.refl _ _ | assumption | (refine Below.alloc ?_ (by first | omega | (simp; omega) | (simp; done)) _) | (refine Below.setCell ?_ (by first | omega | (simp; omega) | (simp; done)) _) | (refine Below.drew ?_) | (refine belowN ?_ _) | (refine Below.trans ?_ (Below.mono ‹Below _ _ _› (by first | omega | (simp; omega) | (simp; done))))))⟩
  · go_enter Try.func65, Try.ntmps65
    go_wp2_with fail
    refine ((HT _ (by (repeat (first | exact Below.refl _ _ | assumption | (refine Below.alloc ?_ (by first | omega | (simp; omega) | (simp; done)) _) | (refine Below.setCell ?_ (by first | omega | (simp; omega) | (simp; done)) _) | (refine Below.drew ?_) | (refine belowN ?_ _) | (refine Below.trans ?_ (Below.mono ‹Below _ _ _› (by first | omega | (simp; omega) | (simp; done)))))))).out).mono ?_
    rintro e w1 ⟨rfl, hb1⟩
    have hc1 := fun b o (h : b < W.heap.size + 1) => (bcell hb1).1 b o (by simp; omega)
    have l0 : B < W.heap.size + 1 := by omega
    go_wp2_with (first | (go_at_call 67; refine (within_any _ _ _ _).mono ?_; rintro e w' ⟨rfl, rfl⟩))
    go_ret
    exact ⟨ret_bool (by rw [CB.out]; simp), by (repeat (first | exact Below.refl _ _ | assumption | (refine Below.alloc ?_ (by first | omega | (simp; omega) | (simp; done)) _) | (refine Below.setCell ?_ (by first | omega | (simp; omega) | (simp; done)) _) | (refine Below.drew ?_) | (refine belowN ?_ _) | (refine Below.trans ?_ (Below.mono ‹Below _ _ _› (by first | omega | (simp; omega) | (simp; done))))))⟩
theorem gloss2_any (A2 : Option Addr) (c2 n : Nat) (ch : List Int) (c : Cas) (B : Nat) (W : World) (hn : ch.length = n) (hc : c.reads W W.heap.size) (ht : ∀ t ∈ c.when_, TestFit n t) (hf : ∀ x ∈ ch, 0 ≤ x ∧ x ≤ 63) (hr2 : Sl intCell 1 W W.heap.size A2 ch)
    (hB : B < W.heap.size) (hbx : W.cell? ⟨B, 0, none⟩ = some (.slice A2 n c2)) :
    Calls Try.prog 68 (#[Value.agg #[c.v, .int .i64 c.says]] ++ #[.pointer (some ⟨B, 0, none⟩)]) W fun e W' => e = .returned (.bool (holdsB ch c.when_)) ∧ Below W.heap.size W W' := by
  subst hn
  obtain ⟨⟨A, cap, hv, hsl⟩, hl, hok⟩ := hc
  have HT := fun (W' : World) (hW : Below W.heap.size W W') => Lib.hid (holds_any A A2 cap c2 ch c.when_ W' _ rfl hl ht hf ((hsl.below hW).more hW.size) ((hr2.below hW).more hW.size))
  obtain ⟨cv, ts, says⟩ := c
  simp only at hv HT hl ⊢
  subst hv
  clear hsl hok ht hf hr2
  go_enter Try.func68, Try.ntmps68
  go_wp2_with fail
  refine ((HT _ (by (repeat (first | exact Below.refl _ _ | assumption | (refine Below.alloc ?_ (by first | omega | (simp; omega) | (simp; done)) _) | (refine Below.setCell ?_ (by first | omega | (simp; omega) | (simp; done)) _) | (refine Below.drew ?_) | (refine belowN ?_ _) | (refine Below.trans ?_ (Below.mono ‹Below _ _ _› (by first | omega | (simp; omega) | (simp; done)))))))).out).mono ?_
  rintro e w1 ⟨rfl, hb1⟩
  go_wp2
  go_ret
  exact ⟨rfl, by (repeat (first | exact Below.refl _ _ | assumption | (refine Below.alloc ?_ (by first | omega | (simp; omega) | (simp; done)) _) | (refine Below.setCell ?_ (by first | omega | (simp; omega) | (simp; done)) _) | (refine Below.drew ?_) | (refine belowN ?_ _) | (refine Below.trans ?_ (Below.mono ‹Below _ _ _› (by first | omega | (simp; omega) | (simp; done))))))⟩

/-- what is wrong with a commentary at a chart: the case and the fault; (0, 0): nothing -/
def glAt (s : Sch) (kind : Int) (cs : List Cas) (k : Nat) : Int × Int :=
  let p := fun (c : Cas) => holdsB (chartL s k) c.when_
  let i := firstIdx p cs
  if i < 0 then (-1, 1) else
    let j := firstIdx p (cs.drop (i.toNat + 1))
    if 0 ≤ j then (i + 1 + j, 2) else if ansN s 0 kind (chartL s k) = 2 ^ ((cs[i.toNat]?).map (fun c => c.says.toNat)).getD 0 then (0, 0) else (i, 3)
def glossN (s : Sch) (kind : Int) (cs : List Cas) : Int := firstN (fun k => (glAt s kind cs k).2 != 0) (chartsC s)
/-- first, at, fault, error -/
def glossR (s : Sch) (kind : Int) (cs : List Cas) : Int × Int × Int × Int :=
  if schB s then (if inB kind 0 (s.kinds - 1) then (if cs.length ≤ 40 then (if cs.all (casB s) then
    (if glossN s kind cs < 0 then (-1, -1, 0, 0) else (glossN s kind cs, (glAt s kind cs (glossN s kind cs).toNat).1, (glAt s kind cs (glossN s kind cs).toNat).2, 0))
    else (0, 0, 0, 4)) else (0, 0, 0, 5)) else (0, 0, 0, 7)) else (0, 0, 0, 2)
def Ret4 (r : Int × Int × Int × Int) (w : World) (e : Ending) (w' : World) : Prop := e = .returned (.tuple #[.int .i64 r.1, .int .i64 r.2.1, .int .i64 r.2.2.1, .int .i64 r.2.2.2]) ∧ Below w.heap.size w w'

end Go.Proofs.Ytidlmbajpbbilaa

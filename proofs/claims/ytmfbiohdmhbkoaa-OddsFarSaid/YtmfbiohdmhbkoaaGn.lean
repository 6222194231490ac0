/- Words for lists that grow within their room; the library's BinarySearch. -/
import Derived.Test.YtmfbiohdmhbkoaaGf
import Derived.Test.YtmfbiohdmhbkoaaPq
import Derived.Test.YtmfbiohdmhbkoaaIter
import Derived.Deep.DeepAppendRoom
import Derived.Maps.OwnIn
namespace Go.Proofs.Ytmfbiohdmhbkoaa
open Go.RowKit

/-- a list of integers of the call's own, at the head of block g, with room for cap -/
abbrev Own (W : World) (g cap : Nat) (l : List Int) : Prop := W.ownsRow 0 3 1 (.slice (some ⟨g, 0, none⟩) l.length cap) l.length (l.map (Value.int .i64))
section
variable {W W' : World} {g cap : Nat} {l : List Int}
theorem Own.cells_ (h : Own W g cap l) {j : Nat} (hj : j < l.length) : W.cell? ⟨g, j, none⟩ = some (.int .i64 l[j]) := by
  have := World.ownsRow.cells (g := g) h rfl j (.int .i64 l[j]) (by simp [hj])
  rw [Go.WideShapes.add_plain, Nat.zero_add] at this
  exact this
theorem Own.lt_ (h : Own W g cap l) : g < W.heap.size := by
  rcases h.2 with ⟨hv, _⟩ | ⟨b, c, cur, hv, _, hg, _⟩
  · simp at hv
  · simp only [Value.slice.injEq, Option.some.injEq, Addr.mk.injEq, and_true] at hv
    obtain ⟨rfl, _⟩ := hv
    exact (Array.getElem?_eq_some_iff.1 hg).1
theorem Own.sl (h : Own W g cap l) : Sl intCell 1 W W.heap.size (some ⟨g, 0, none⟩) l :=
  ⟨by rw [flat_int]; simp, fun _ => ⟨g, 0, rfl, h.lt_, fun j u hu => by
    rw [flat_int, List.getElem?_map] at hu
    cases hj : l[j]? with
    | none => rw [hj] at hu; cases hu
    | some x =>
      rw [hj] at hu; injection hu with hu; subst hu
      obtain ⟨hlt, rfl⟩ := List.getElem?_eq_some_iff.1 hj
      rw [Nat.zero_add]; exact h.cells_ hlt⟩⟩
theorem Own.below (h : Own W g cap l) (hb : Below W.heap.size W W') : Own W' g cap l := by
  refine World.ownsRow.kept h (row := none) ⟨hb.os, hb.tape, hb.output, hb.size, fun k hk _ => hb.block k hk⟩ ?_
  exact .inr (by simp [Value.ownBlock])
end
section
variable {F : Fence} {nF : Nat} {P : Program} (w : World)
theorem wpListIn_append_spare {ops : Array Oper} {rest : List Oper} {o : Oper} {a : Act} {Q : Exit → Act → World → Prop} (hgd : o.guard = none) (s x : Operand) (t : TypeId)
    (ho : o.op = .call { callee := .builtin .append, args := #[s, x], argTypes := #[t, t] })
    (base : Nat) (e : TypeId) (i : TypeInfo) (size : Nat) (ht : P.underlying t = some (.slice e)) (hi : P.info? e = some i) (hsize : i.size = size)
    (g n cap : Nat) (xs : List Value) (hs : a.eval s = .slice (some ⟨g, 0, none⟩) n cap) (hown : w.ownsRow base e size (.slice (some ⟨g, 0, none⟩) n cap) n xs)
    (ad : Addr) (m c : Nat) (news : List Value) (hx : a.eval x = .slice (some ad) m c) (hl : news.length = m * size) (hnews : ∀ j u, news[j]? = some u → w.cell? (ad.add j) = some u) (h1 : ∀ u ∈ news, u.oneCell' = true)
    (hroom : n + m ≤ cap)
    (h : ∀ w', w'.ownsRow base e size (.slice (some ⟨g, 0, none⟩) (n + m) cap) (n + m) (xs ++ news) → w.grownBy w' (some g) → wpListIn F nF P ops Q rest (a.put o.dst (.slice (some ⟨g, 0, none⟩) (n + m) cap)) w') : wpListIn F nF P ops Q (o :: rest) a w := by
  refine wpListIn_plain hgd fun K hK => ?_
  obtain ⟨w', hr, h2, h3⟩ := run_append_own_spare (P := P) w base t o.type e i size ht hi hsize g n cap xs hown ad m c news hl hnews h1 hroom
  unfold Oper.wpIn
  refine ⟨by simp [Oper.about, ho, resolve, Target.leads, Sem.run_pure], ?_⟩
  rw [Oper.semAt_plain F _ _ (by rw [ho]; intro c hc'; cases hc')]
  simp [execOp, ho, resolve, invoke, builtin, hs, hx, hr, Result.andThen]
  exact hK _ _ (h w' h2 h3)
end
theorem grownBy_setCellA (W : World) (p : Addr) (v : Value) : W.grownBy (W.setCell p v) (some p.block) := by
  refine ⟨rfl, rfl, rfl, by simp, fun k _ hk => Below.heap_setCell W p v k (fun e => hk (by rw [e]))⟩
theorem Own.far {W : World} {g cap : Nat} {l : List Int} (h : Own W g cap l) (p : Addr) (hne : g ≠ p.block) (v : Value) : Own (W.setCell p v) g cap l :=
  World.ownsRow.kept h (grownBy_setCellA W p v) (.inr fun e => hne (by simpa [Value.ownBlock] using e))
theorem Blk.grown {W W' : World} {row : Option Nat} {k t : Nat} {cs : Array Value} (h : Blk W k cs t) (hg : W.grownBy W' row) (hne : some k ≠ row) : Blk W' k cs t := by
  have := hg.block k h.lt hne
  show W'.heap[k]? = _
  rw [this]; exact h
theorem Own.snoc {W : World} {g cap n : Nat} {l : List Int} {x : Int} (hn : n = l.length) (h : W.ownsRow 0 3 1 (.slice (some ⟨g, 0, none⟩) (n + 1) cap) (n + 1) (l.map (Value.int .i64) ++ [.int .i64 x])) : Own W g cap (l ++ [x]) := by
  subst hn
  show W.ownsRow 0 3 1 (.slice (some ⟨g, 0, none⟩) (l ++ [x]).length cap) (l ++ [x]).length ((l ++ [x]).map (Value.int .i64))
  simpa using h
theorem less_any (a b : Int) (w : World) : Calls Try.prog 93 #[.int .i64 a, .int .i64 b] w fun e w' => e = .returned (.bool (decide (a < b))) ∧ w = w' := by
  have h1 : (a != a) = false := by simp
  have h2 : (b != b) = false := by simp
  go_enter Try.func93, Try.ntmps93
  go_wp2
  go_ret
  exact ⟨rfl, rfl⟩
/-- where a value stands in a list that does not fall -/
structure Found (l : List Int) (v : Int) (i : Nat) (f : Bool) : Prop where
  le : i ≤ l.length
  lo : ∀ j, j < i → (h : j < l.length) → l[j] < v
  hi : ∀ j, i ≤ j → (h : j < l.length) → v ≤ l[j]
  eq : f = true → ∃ h : i < l.length, l[i] = v
  ne : f = false → ∀ h : i < l.length, l[i] ≠ v
def RetFound (l : List Int) (v : Int) (w : World) (e : Ending) (w' : World) : Prop := (∃ (i : Nat) (f : Bool), Found l v i f ∧ e = .returned (.tuple #[.int .i64 i, .bool f])) ∧ w = w'
def Rising (l : List Int) : Prop := ∀ i j (h : i ≤ j) (hj : j < l.length), l[i] ≤ l[j]
set_option maxRecDepth 100000 in
set_option maxHeartbeats 4000000 in
theorem bsearch_any (A : Option Addr) (c : Nat) (l : List Int) (v : Int) (w : World) (hm : l.length ≤ 1000000) (hr : Sl intCell 1 w w.heap.size A l) (hs : Rising l) :
    Calls Try.prog 70 #[.slice A l.length c, .int .i64 v] w (RetFound l v w) := by
  have HR := Lib.hid hr; have HS := Lib.hid hs
  clear hr hs
  go_enter Try.func70, Try.ntmps70
  go_wp2
  go_loop [7, 8] (fun vi vj => ∃ i j : Nat, vi = .int .i64 i ∧ vj = .int .i64 j ∧ i ≤ j ∧ j ≤ l.length ∧ Hid (∀ k, k < i → (h : k < l.length) → l[k] < v) ∧ Hid (∀ k, j ≤ k → (h : k < l.length) → v ≤ l[k])) (fun vi vj => (intOf vj - intOf vi).toNat)
  case atStart => exact ⟨0, l.length, rfl, rfl, by omega, by omega, fun k h => by omega, fun k h h' => by omega⟩
  case round =>
    obtain ⟨i, j, rfl, rfl, hij, hj, HL, HH⟩ := hrel
    by_cases hlt : i < j
    · obtain ⟨m, hme⟩ : ∃ m, m = (i + j) / 2 := ⟨_, rfl⟩
      have hm2 : ((i : Int) + (j : Int)) / 2 = (m : Int) := by omega
      have hb1 : m < l.length := by omega
      have hb2 : i ≤ m := by omega
      have hb3 : m < j := by omega
      obtain ⟨b, o, rfl, hb, hc⟩ := HR.out.int_at hb1
      clear hme
      have hk0 : (0 : Int) ≤ (m : Int) := by omega
      have hk1 : (m : Int) < (l.length : Int) := by omega
      by_cases hv : l[m] < v
      · have HV : Hid (∀ k, k < m + 1 → (h : k < l.length) → l[k] < v) := (fun k hk h => Int.lt_of_le_of_lt (HS.out k m (by omega) hb1) hv : ∀ k, k < m + 1 → (h : k < l.length) → l[k] < v)
        obtain ⟨x, hx⟩ : ∃ x, x = l[m] := ⟨_, rfl⟩
        rw [← hx] at hc hv
        clear hx
        have dv : decide (x < v) = true := by simpa using hv
        clear hv
        go_wp2_with (go_at_call 93; refine (less_any _ _ _).mono ?_; rintro _ _ ⟨rfl, rfl⟩)
        go_round
        case rel => exact ⟨m + 1, j, by go_num, rfl, by omega, hj, HV, HH⟩
        case measure => simp [intOf] <;> omega
      · have HV : Hid (∀ k, m ≤ k → (h : k < l.length) → v ≤ l[k]) := (fun k hk h => Int.le_trans (Int.not_lt.1 hv) (HS.out m k hk h) : ∀ k, m ≤ k → (h : k < l.length) → v ≤ l[k])
        obtain ⟨x, hx⟩ : ∃ x, x = l[m] := ⟨_, rfl⟩
        rw [← hx] at hc hv
        clear hx
        have dv : decide (x < v) = false := by simpa using hv
        clear hv
        go_wp2_with (go_at_call 93; refine (less_any _ _ _).mono ?_; rintro _ _ ⟨rfl, rfl⟩)
        go_round
        case rel => exact ⟨i, m, rfl, rfl, by omega, by omega, HL, HV⟩
        case measure => simp [intOf] <;> omega
    · obtain rfl : i = j := by omega
      by_cases hil : i < l.length
      · obtain ⟨b, o, rfl, hb, hc⟩ := HR.out.int_at hil
        have hk0 : (0 : Int) ≤ (i : Int) := by omega
        have hk1 : (i : Int) < (l.length : Int) := by omega
        have n1 : (v != v) = false := by simp
        by_cases hv : l[i] = v
        · have HF := Lib.hid (⟨hj, HL.out, HH.out, fun _ => ⟨hil, hv⟩, (fun h => nomatch h)⟩ : Found l v i true)
          have hve : (l[i] == v) = true := by simpa using hv
          obtain ⟨x, hx⟩ : ∃ x, x = l[i] := ⟨_, rfl⟩
          rw [← hx] at hc hve
          clear hx hv
          go_wp2
          go_ret2
          exact ⟨⟨i, true, HF.out, rfl⟩, rfl⟩
        · have HF := Lib.hid (⟨hj, HL.out, HH.out, (fun h => nomatch h), fun _ _ => hv⟩ : Found l v i false)
          have hve : (l[i] == v) = false := by simpa using hv
          obtain ⟨x, hx⟩ : ∃ x, x = l[i] := ⟨_, rfl⟩
          rw [← hx] at hc hve
          have n2 : (x != x) = false := by simp
          clear hx hv
          go_wp2
          go_ret2
          exact ⟨⟨i, false, HF.out, rfl⟩, rfl⟩
      · have HF := Lib.hid (⟨hj, HL.out, HH.out, (fun h => nomatch h), fun _ h => absurd h hil⟩ : Found l v i false)
        have hk1 : decide ((i : Int) < (l.length : Int)) = false := by simp; omega
        have hk2 : decide (i < l.length) = false := by simpa using hil
        go_wp2
        go_ret2
        exact ⟨⟨i, false, HF.out, rfl⟩, rfl⟩
end Go.Proofs.Ytmfbiohdmhbkoaa

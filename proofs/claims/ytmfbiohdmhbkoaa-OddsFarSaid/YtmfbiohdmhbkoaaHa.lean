/- odds: the lists of a mixture, by their numbers. -/
import Derived.Test.YtmfbiohdmhbkoaaGr
import Derived.Test.YtmfbiohdmhbkoaaPu
import Derived.Maps.RangeWalk
import Derived.Maps.OwnIn
import Derived.Maps.OwnOps
namespace Go.Proofs.Ytmfbiohdmhbkoaa
open Go.RowKit

/-- how an element that is a slice reads: as itself -/
def heldE (v : Value) : Option (DataW Value × List MemPlace) := some (.held v, [])
theorem heldE_inv (v : Value) (y : DataW Value × List MemPlace) (_ : heldE v = some y) : ∃ c : Value, v = id c := ⟨v, rfl⟩
abbrev DV := DataW Value
theorem keyInt : Go.Maps.Keyed Try.prog 3 := Go.Maps.int_keyed Try.underlying3
abbrev slB (b n : Nat) : Value := .slice (some ⟨b, 0, none⟩) n n
theorem zeroInts (w : World) : (zeroValue 22).run Try.prog w = .ok (.slice none 0 0) w := by kernel_rfl
/-- a look-up whose value is known -/
theorem wpList_lookup_held {ops : Array Oper} {rest : List Oper} {o : Oper} {a : Act} {Q : Exit → Act → World → Prop} (w : World)
    (hg : o.guard = none) (m x : Operand) (t : TypeId) (hop : o.op = Op.lookup t m x false) (ht : Try.prog.underlying t = some (.map 3 22)) (b n : Nat) (D : DV)
    (hm : a.eval m = .map (some b)) (hown : w.ownsMap Try.prog 3 heldE b n D) (key : Value) (kl : Lit) (hx : a.eval x = key) (hkey : keyOf Try.prog 3 key = some kl) (v : Value) (hat : ∀ zd, D.atKey kl zd = .held v)
    (hK : wpList Try.prog ops Q rest (a.put o.dst v) w) : wpList Try.prog ops Q (o :: rest) a w := by
  refine wpList_plain hg fun K' hK' => ?_
  obtain ⟨v', ps, hrun, hR⟩ := hown.lookup keyInt ht (zeroInts w) (zd := .held (.slice none 0 0)) (zp := []) rfl hkey
  rw [hat] at hR
  simp [heldE] at hR
  obtain ⟨rfl, -⟩ := hR
  unfold Oper.wp
  simp [execOp, hop, hm, hx, hrun, Result.andThen]
  exact hK' _ _ hK
theorem ownsMap_below {w w' : World} {b n B : Nat} {D : DV} (h : w.ownsMap Try.prog 3 heldE b n D) (hb : Below B w w') (hB : b < B) : w'.ownsMap Try.prog 3 heldE b n D := by
  obtain ⟨es, clock, h1, h2⟩ := h
  exact ⟨es, clock, (hb.block b hB).trans h1, h2⟩
/-- the map holds the lists below k that can be chosen, in lowest terms -/
structure Parts (D : DV) (c : List Int) (ls : List (List Int)) (len mb k : Nat) (W : World) : Prop where
  is : Go.Maps.IsMap D
  has : ∀ kl, Go.Maps.has D kl = true ↔ ∃ i : Nat, i < k ∧ c.getD i 0 ≠ 0 ∧ kl = .int .i64 (i : Int)
  at_ : ∀ i, i < k → c.getD i 0 ≠ 0 → ∃ b, (∀ zd, D.atKey (.int .i64 (i : Int)) zd = .held (slB b len)) ∧ Arr W b (lowL (ls.getD i [])) ∧ mb < b
theorem Parts.empty (c : List Int) (ls : List (List Int)) (len mb : Nat) (W : World) : Parts (.map []) c ls len mb 0 W :=
  ⟨Go.Maps.isMap_empty, fun kl => ⟨fun h => by simp [Go.Maps.has] at h, fun ⟨_, h, _⟩ => by omega⟩, fun i h => by omega⟩
theorem Parts.grown {D : DV} {c : List Int} {ls : List (List Int)} {len mb k r : Nat} {W W' : World} (h : Parts D c ls len mb k W) (hg : W.grownBy W' (some r)) (hr : r ≤ mb) : Parts D c ls len mb k W' :=
  ⟨h.is, h.has, fun i hi hc => by
    obtain ⟨b, h1, h2, h3⟩ := h.at_ i hi hc
    exact ⟨b, h1, h2.grown hg (by intro e; cases e; omega), h3⟩⟩
theorem Parts.below {D : DV} {c : List Int} {ls : List (List Int)} {len mb k : Nat} {W W' : World} (h : Parts D c ls len mb k W) (hg : Below W.heap.size W W') : Parts D c ls len mb k W' :=
  ⟨h.is, h.has, fun i hi hc => by
    obtain ⟨b, h1, h2, h3⟩ := h.at_ i hi hc
    exact ⟨b, h1, h2.below hg h2.lt, h3⟩⟩
theorem Parts.skip {D : DV} {c : List Int} {ls : List (List Int)} {len mb k : Nat} {W : World} (h : Parts D c ls len mb k W) (hc : c.getD k 0 = 0) : Parts D c ls len mb (k + 1) W :=
  ⟨h.is, fun kl => (h.has kl).trans ⟨fun ⟨i, a, b, e⟩ => ⟨i, by omega, b, e⟩, fun ⟨i, a, b, e⟩ => ⟨i, by rcases Nat.lt_succ_iff_lt_or_eq.1 a with x | x; exact x; subst x; exact absurd hc b, b, e⟩⟩,
    fun i hi hb => h.at_ i (by rcases Nat.lt_succ_iff_lt_or_eq.1 hi with x | x; exact x; subst x; exact absurd hc hb) hb⟩
theorem int_key_ne {i k : Nat} (h : i ≠ k) : (Lit.int .i64 (i : Int)) ≠ .int .i64 (k : Int) := fun e => by injection e with _ e; omega
theorem Parts.put {D : DV} {c : List Int} {ls : List (List Int)} {len mb k b : Nat} {W : World} (h : Parts D c ls len mb k W) (hc : c.getD k 0 ≠ 0) (ha : Arr W b (lowL (ls.getD k []))) (hb : mb < b) :
    Parts (D.put (.int .i64 (k : Int)) (.held (slB b len))) c ls len mb (k + 1) W := by
  refine ⟨h.is.put _ _, fun kl => ?_, fun i hi hci => ?_⟩
  · by_cases e : kl = .int .i64 (k : Int)
    · subst e
      exact ⟨fun _ => ⟨k, by omega, hc, rfl⟩, fun _ => Go.Maps.has_put_same h.is (show WideAt.IsKeyLit (.int .i64 (k : Int)) from trivial) _⟩
    · rw [Go.Maps.has_put_other e, h.has]
      constructor
      · rintro ⟨i, a, b, rfl⟩; exact ⟨i, by omega, b, rfl⟩
      · rintro ⟨i, a, b, rfl⟩
        rcases Nat.lt_succ_iff_lt_or_eq.1 a with x | x
        · exact ⟨i, x, b, rfl⟩
        · subst x; exact absurd rfl e
  · rcases Nat.lt_succ_iff_lt_or_eq.1 hi with x | x
    · obtain ⟨b', h1, h2, h3⟩ := h.at_ i x hci
      exact ⟨b', fun zd => by rw [Go.Maps.atKey_put_other (int_key_ne (by omega))]; exact h1 zd, h2, h3⟩
    · subst x
      exact ⟨b, fun zd => Go.Maps.atKey_put_same h.is (show WideAt.IsKeyLit (.int .i64 (i : Int)) from trivial) _ zd, ha, hb⟩
/-- the columns below j with list i, the others without it -/
def mixP (c : List Int) (ls : List (List Int)) (m : Int) (len : Nat) (vis : Nat → Bool) (i j : Nat) : List Int :=
  (List.range len).map fun t => sumV (mixT c ls m t) (if t < j then (fun q => vis q || q == i) else vis) ls.length
section
variable {c : List Int} {ls : List (List Int)} {m : Int} {len : Nat} {vis : Nat → Bool} {i : Nat}
theorem mixP_zero : mixP c ls m len vis i 0 = mixO c ls m len vis := by simp [mixP, mixO]
theorem mixP_len {j : Nat} : (mixP c ls m len vis i j).length = len := by simp [mixP]
theorem mixP_all : mixP c ls m len vis i len = mixO c ls m len (fun q => vis q || q == i) := by
  unfold mixP mixO
  apply List.map_congr_left
  intro t ht
  rw [if_pos (List.mem_range.1 ht)]
theorem mixP_get {j t : Nat} (ht : t < len) : (mixP c ls m len vis i j)[t]'(by rw [mixP_len]; exact ht) = sumV (mixT c ls m t) (if t < j then (fun q => vis q || q == i) else vis) ls.length := by simp [mixP]
theorem mixP_next {j : Nat} (hj : j < len) (hi : i < ls.length) (hv : vis i = false) :
    mixP c ls m len vis i (j + 1) = (mixP c ls m len vis i j).set j ((mixP c ls m len vis i j)[j]'(by rw [mixP_len]; exact hj) + mixT c ls m j i) := by
  apply List.ext_getElem
  · simp [mixP_len]
  · intro t h1 h2
    have h3 : t < len := by simpa [mixP_len] using h1
    rw [mixP_get h3]
    by_cases e : t = j
    · subst e
      rw [List.getElem_set_self, mixP_get h3, if_pos (by omega), if_neg (by omega), sumV_add hv hi]
    · rw [List.getElem_set_ne (by omega), mixP_get h3]
      by_cases h : t < j
      · rw [if_pos h, if_pos (by omega)]
      · rw [if_neg h, if_neg (by omega)]
theorem sumV_zero {f : Nat → Int} {vis : Nat → Bool} : ∀ {n : Nat}, (∀ i, i < n → vis i = false ∨ f i = 0) → sumV f vis n = 0
  | 0, _ => rfl
  | n + 1, h => by
    simp only [sumV]
    rw [sumV_zero (n := n) fun i hi => h i (by omega)]
    rcases h n (by omega) with a | a
    · rw [if_neg (by rw [a]; decide)]; rfl
    · rw [a]; simp
theorem mixO_start (hv : ∀ i, i < ls.length → c.getD i 0 ≠ 0 → vis i = false) : mixO c ls m len vis = List.replicate len 0 := by
  apply List.ext_getElem
  · simp [mixO_len]
  · intro t h1 h2
    rw [mixO_len] at h1
    rw [mixO_get _ h1, List.getElem_replicate]
    exact sumV_zero fun i hi => by
      by_cases hc : c.getD i 0 = 0
      · exact .inr (by unfold mixT; rw [if_pos hc])
      · exact .inl (hv i hi hc)
theorem mixO_end (hv : ∀ i, i < ls.length → c.getD i 0 ≠ 0 → vis i = true) : mixO c ls m len vis = mixO c ls m len (fun _ => true) := by
  unfold mixO
  apply List.map_congr_left
  intro t _
  exact sumV_congr fun i hi => by
    by_cases hc : c.getD i 0 = 0
    · right; exact ⟨by unfold mixT; rw [if_pos hc], by unfold mixT; rw [if_pos hc]⟩
    · exact .inl ⟨hv i hi hc, rfl⟩
end
end Go.Proofs.Ytmfbiohdmhbkoaa

/- The reference: Read (plain part). -/
import Derived.Test.YtidlmbajpbbilaaRfF
namespace Go.Proofs.Ytidlmbajpbbilaa
open Go.RowKit

/-- who speaks, of the first i rules; v at place i -/
def spkA (f : Nat → Bool) (n i : Nat) (v : Bool) : List Value := (List.range n).map fun j => Value.bool (if j = i then v else decide (j < i) && f j)
theorem spkA_get {f : Nat → Bool} {n i j : Nat} {v : Bool} (h : j < n) : (spkA f n i v).toArray[j]? = some (.bool (if j = i then v else decide (j < i) && f j)) := by
  simp [spkA, h]
theorem spkA_set {f : Nat → Bool} {n i : Nat} {v v' : Bool} : (spkA f n i v).toArray.setIfInBounds i (.bool v') = (spkA f n i v').toArray := by
  rw [List.setIfInBounds_toArray]
  congr 1
  apply List.ext_getElem (by simp [spkA])
  intro k h1 h2
  simp only [spkA, List.length_set, List.length_map, List.length_range] at h1
  rw [List.getElem_set]
  by_cases hk : i = k
  · subst hk; simp [spkA]
  · have : ¬ k = i := fun e => hk e.symm
    simp [spkA, hk, this]
theorem spkA_next (f : Nat → Bool) (n i : Nat) : spkA f n i (f i) = spkA f n (i + 1) false := by
  unfold spkA
  refine List.map_congr_left fun j _ => ?_
  congr 1
  by_cases h1 : j = i
  · subst h1; simp
  · by_cases h2 : j = i + 1
    · subst h2; rw [if_neg h1, if_pos rfl]; have : decide (i + 1 < i) = false := by simp
      rw [this]; rfl
    · rw [if_neg h1, if_neg h2]
      have : decide (j < i) = decide (j < i + 1) := by simp; omega
      rw [this]
theorem spkA_zero (f : Nat → Bool) (n : Nat) : List.replicate n (Value.bool false) = spkA f n 0 false := by
  apply List.ext_getElem (by simp [spkA])
  intro k h1 h2
  simp [spkA]
theorem i64_is1 (r : Rul) (kind : Int) (h0 : 0 ≤ r.kinds) (h1 : r.kinds < 16) : (bits BinOp.and IntKind.i64 (r.kinds / 2 ^ kind.toNat) 1 == 1) = kbit r kind := by
  have hp : (0 : Int) < 2 ^ kind.toNat := Int.pow_pos (by omega)
  have h2 : 0 ≤ r.kinds / 2 ^ kind.toNat := Int.ediv_nonneg h0 (by omega)
  have h3 : r.kinds / 2 ^ kind.toNat ≤ r.kinds := Int.ediv_le_self _ h0
  unfold kbit
  obtain ⟨x, hx⟩ := Int.eq_ofNat_of_zero_le h2
  have e : bits BinOp.and IntKind.i64 (x : Int) 1 = ((x % 2 : Nat) : Int) := by
    have hx2 : x &&& 1 < 2 ^ 63 := Nat.and_lt_two_pow _ (by omega)
    show IntKind.i64.wrap ((BitVec.ofInt 64 (x : Int) &&& BitVec.ofInt 64 ((1 : Nat) : Int)).toNat : Int) = _
    rw [BitVec.toNat_and, BitVec.ofInt_natCast, BitVec.ofInt_natCast, BitVec.toNat_ofNat, BitVec.toNat_ofNat, Nat.mod_eq_of_lt (by omega), Nat.mod_eq_of_lt (by omega), Nat.and_one_is_mod, IntKind.wrap_i64]
    omega
  rw [hx, e]
  have hc : ((x : Int) % 2) = ((x % 2 : Nat) : Int) := by omega
  rw [hc]
/-- the rules that hold, as a reading asks for them -/
abbrev holdF (s : Sch) (ch : List Int) (i : Nat) : Bool := (bset (appl s ch) s.rules.length).testBit i && !(0 : Nat).testBit i
abbrev spF (s : Sch) (kind : Int) (ch : List Int) : Nat → Bool := sp s (holdF s ch) kind
theorem spF_eq {s : Sch} (V : Valid s) (kind : Int) (ch : List Int) {i : Nat} (h : i < s.rules.length) :
    spF s kind ch i = (kbit s.rules[i] kind && holdsB ch s.rules[i].when_ && !(s.rules[i].unless_.any fun u => spF s kind ch u.toNat)) := by
  rw [spF, sp_eq s _ kind i h (V.rule i h).unl]
  have : holdF s ch i = holdsB ch s.rules[i].when_ := by
    simp [holdF, bset_testBit, h, appl]
  rw [this]
  cases kbit s.rules[i] kind <;> cases holdsB ch s.rules[i].when_ <;> simp
theorem any_take_succ {α : Type} {p : α → Bool} {l : List α} {k : Nat} (h : k < l.length) : (l.take (k + 1)).any p = ((l.take k).any p || p l[k]) := by
  rw [List.take_succ_eq_append_getElem h, List.any_append]; simp
theorem rnk_get {s : Sch} {i : Nat} (h : i < s.rules.length) : rnk s i = s.rules[i].rank := by simp [rnk, List.getElem?_eq_getElem h]
/-- the rules that are heard, of the first i -/
def heardL (s : Sch) (kind : Int) (ch : List Int) (i : Nat) : List Int := ((List.range i).filter (mainOf s 0 kind ch)).map fun (i : Nat) => (i : Int)
theorem heardL_succ (s : Sch) (kind : Int) (ch : List Int) (i : Nat) : heardL s kind ch (i + 1) = heardL s kind ch i ++ if mainOf s 0 kind ch i then [(i : Int)] else [] := by
  unfold heardL
  rw [List.range_succ, List.filter_append, List.map_append]
  by_cases h : mainOf s 0 kind ch i = true <;> simp [h]
theorem heardL_len (s : Sch) (kind : Int) (ch : List Int) (i : Nat) : (heardL s kind ch i).length ≤ i := by
  unfold heardL; rw [List.length_map]; exact Nat.le_trans (List.length_filter_le _ _) (by simp)
theorem bitsOf_main {s : Sch} (V : Valid s) (kind : Int) (ch : List Int) : bitsOf (mainN s 0 kind ch) = heardL s kind ch s.rules.length := by
  unfold bitsOf upBits mainN heardL
  rw [filter_bset _ _ _ (by have := V.len; omega)]
theorem mainOf_eq (s : Sch) (kind : Int) (ch : List Int) (i : Nat) : mainOf s 0 kind ch i = (spF s kind ch i && (rnk s i == topR s (spF s kind ch) s.rules.length)) := rfl
/-- what has been said by the first i rules -/
def saidA (s : Sch) (kind : Int) (ch : List Int) (m i : Nat) : List Value := (List.range m).map fun a => Value.bool (saidTo s (mainN s 0 kind ch) i a)
theorem saidA_zero (s : Sch) (kind : Int) (ch : List Int) (m : Nat) : List.replicate m (Value.bool false) = saidA s kind ch m 0 := by
  apply List.ext_getElem (by simp [saidA])
  intro k h1 h2
  simp [saidA, saidTo]
theorem mainN_bit {s : Sch} (_V : Valid s) (kind : Int) (ch : List Int) {i : Nat} (h : i < s.rules.length) : (mainN s 0 kind ch).testBit i = mainOf s 0 kind ch i := by
  unfold mainN; rw [bset_testBit]; simp [h]
theorem saidA_no {s : Sch} (V : Valid s) {kind : Int} {ch : List Int} {m i : Nat} (h : i < s.rules.length) (hm : mainOf s 0 kind ch i = false) : saidA s kind ch m (i + 1) = saidA s kind ch m i := by
  unfold saidA
  refine List.map_congr_left fun a _ => ?_
  simp [saidTo, mainN_bit V kind ch h, hm]
theorem saidA_yes {s : Sch} (V : Valid s) {kind : Int} {ch : List Int} {m i y : Nat} (h : i < s.rules.length) (hm : mainOf s 0 kind ch i = true) (hy : sys s i = y) :
    (saidA s kind ch m i).toArray.setIfInBounds y (.bool true) = (saidA s kind ch m (i + 1)).toArray := by
  rw [List.setIfInBounds_toArray]
  congr 1
  apply List.ext_getElem (by simp [saidA])
  intro k h1 h2
  rw [List.getElem_set]
  by_cases hk : y = k
  · subst hk; simp [saidA, saidTo, mainN_bit V kind ch h, hm, hy]
  · have : ¬ k = y := fun e => hk e.symm
    simp [saidA, saidTo, mainN_bit V kind ch h, hm, hy, hk, this]
theorem saidA_get {s : Sch} {kind : Int} {ch : List Int} {m i a : Nat} (h : a < m) : (saidA s kind ch m i).toArray[a]? = some (.bool (saidTo s (mainN s 0 kind ch) i a)) := by simp [saidA, h]
/-- the answers below a -/
def answL (s : Sch) (kind : Int) (ch : List Int) (a : Nat) : List Int := ((List.range a).filter (ansOf s 0 kind ch)).map fun (i : Nat) => (i : Int)
theorem answL_succ (s : Sch) (kind : Int) (ch : List Int) (a : Nat) : answL s kind ch (a + 1) = answL s kind ch a ++ if ansOf s 0 kind ch a then [(a : Int)] else [] := by
  unfold answL
  rw [List.range_succ, List.filter_append, List.map_append]
  by_cases h : ansOf s 0 kind ch a = true <;> simp [h]
theorem answL_len (s : Sch) (kind : Int) (ch : List Int) (a : Nat) : (answL s kind ch a).length ≤ a := by
  unfold answL; rw [List.length_map]; exact Nat.le_trans (List.length_filter_le _ _) (by simp)
theorem filter_more {p : Nat → Bool} {n m : Nat} (h : n ≤ m) (hp : ∀ i, p i = true → i < n) : (List.range m).filter p = (List.range n).filter p := by
  obtain ⟨d, rfl⟩ : ∃ d, m = n + d := ⟨m - n, by omega⟩
  rw [List.range_add, List.filter_append]
  have : (List.filter p ((List.range d).map fun x => n + x)) = [] := by
    rw [List.filter_eq_nil_iff]
    intro a ha
    obtain ⟨b, _, rfl⟩ := List.mem_map.1 ha
    intro h; have := hp _ h; omega
  rw [this, List.append_nil]
theorem answL_eq {s : Sch} (V : Valid s) (kind : Int) (ch : List Int) : answL s kind ch s.answers.toNat = ((List.range 20).filter (ansOf s 0 kind ch)).map fun (i : Nat) => (i : Int) := by
  unfold answL
  rw [filter_more (p := ansOf s 0 kind ch) (n := s.answers.toNat) (m := 20) (by have := V.answers; omega) (fun i h => saidTo_lt V (L := mainN s 0 kind ch) s.rules.length h)]
/-- a reading is returned -/
def RetR (x : Int × List Int × List Int) (w : World) (e : Ending) (w' : World) : Prop :=
  ∃ A c A2 c2, e = .returned (.agg #[.int .i64 x.1, .slice A x.2.1.length c, .slice A2 x.2.2.length c2]) ∧ Sl intCell 1 w' w'.heap.size A x.2.1 ∧ Sl intCell 1 w' w'.heap.size A2 x.2.2 ∧ Below w.heap.size w w'
def readP (s : Sch) (kind : Int) (ch : List Int) : Int × List Int × List Int := (kindOf ((List.range 20).filter (ansOf s 0 kind ch)), bitsOf (ansN s 0 kind ch), bitsOf (mainN s 0 kind ch))
theorem infoBool : (Try.prog.info? 4).map (fun i => (i.zero, i.size, i.bytes)) = some (some (.bool false), 1, 1) := by kernel_rfl
theorem uBools : Try.prog.underlying 97 = some (.slice 4) := by kernel_rfl
end Go.Proofs.Ytidlmbajpbbilaa

/-
  No cell of these rows narrows 'for every input' (looked for: loops, veiled, ifaces, maps, wideKeys, modest, calm, conditions, laid).
  DERIVED. THE GIVEN ROWS OF THIS SEAT. 8 by the template 'for every input the law returns true; each argument reads behind the call as it read before'; 0 by the template 'total and deterministic' (their statements: YtiikkcifdhcejaaTotals.lean).
  GIVEN WITH THE SEED: the statements are not yours to turn. If you find one false, say at which input.
  Laid BY PROGRAM, IN A SANDBOX (cutbox-rows.mjs): the forced cells as the released guide's own fill.sh prints them over the translation 9a3510f03f746e78… (all of the seat's roots in one cut). By AI agents, Wed Nov 11 2026. No macro, syntax, notation, axiom, sorry.
-/
import Derived.Test.YtiikkcifdhcejaaChecked
import GoSem.Claim
import GoSem.ClaimJoined
import GoSem.ClaimMapViews
import Derived.JoinedTies
import Derived.KernelRfl
namespace Go.Proofs.Ytiikkcifdhcejaa
/- THE CELL 'sum', in the pinned program and in every row, IS THE sha256 OF THE DUMP (.gsa) THAT YtiikkcifdhcejaaProg.lean LOADS. Nothing in Lean hashes anything: it is a label: what it is worth is what the hold of that sum in a sandbox is worth. -/
noncomputable def Try.pinned : Pinned := { name := "ytiikkcifdhcejaa", sum := "9a3510f03f746e78136a3175cb1f559d76e233eddb0b998b27d73063d7308537", checked := Try.checked }
namespace Rows
def none {H : Type} : Left H := { results := [], args := [] }

/-- 'astragallaw09.HabitCompares': WHATEVER THE INPUT: true; the input reads as it did. -/
def habitComparesSpec : ChangeSpec := { name := "habitCompares", fn := fun _ => fun
  | [d1, d2] => { results := [.lit (.bool true)], args := [d1, d2] }
  | _ => none }
def habitComparesRow : OpenClaim := { program := "ytiikkcifdhcejaa", sum := "9a3510f03f746e78136a3175cb1f559d76e233eddb0b998b27d73063d7308537", func := "astragal/astragallaw09.HabitCompares", spec := "habitCompares", inPlace := ["math/bits.Add64"], unfollowed := true, recurses := true, apart := false }
def HabitComparesSaid : Prop := habitComparesRow.holds Try.pinned (OpenSpec.ofChange habitComparesSpec)

/-- ITS FALSE NEIGHBOUR: 'it returns false'. Refute it at one input. -/
def habitComparesWrong : ChangeSpec := { name := "habitCompares", fn := fun _ => fun
  | [d1, d2] => { results := [.lit (.bool false)], args := [d1, d2] }
  | _ => none }
def HabitComparesWrongFalsely : Prop := habitComparesRow.holds Try.pinned (OpenSpec.ofChange habitComparesWrong)

/-- 'astragallaw09.HabitChanges': WHATEVER THE INPUT: true; the input reads as it did. -/
def habitChangesSpec : ChangeSpec := { name := "habitChanges", fn := fun _ => fun
  | [d1, d2, d3] => { results := [.lit (.bool true)], args := [d1, d2, d3] }
  | _ => none }
def habitChangesRow : OpenClaim := { program := "ytiikkcifdhcejaa", sum := "9a3510f03f746e78136a3175cb1f559d76e233eddb0b998b27d73063d7308537", func := "astragal/astragallaw09.HabitChanges", spec := "habitChanges", inPlace := ["math/bits.Add64"], unfollowed := true, recurses := true, apart := false }
def HabitChangesSaid : Prop := habitChangesRow.holds Try.pinned (OpenSpec.ofChange habitChangesSpec)

/-- ITS FALSE NEIGHBOUR: 'it returns false'. Refute it at one input. -/
def habitChangesWrong : ChangeSpec := { name := "habitChanges", fn := fun _ => fun
  | [d1, d2, d3] => { results := [.lit (.bool false)], args := [d1, d2, d3] }
  | _ => none }
def HabitChangesWrongFalsely : Prop := habitChangesRow.holds Try.pinned (OpenSpec.ofChange habitChangesWrong)

/-- 'astragallaw09.HabitOrder': WHATEVER THE INPUT: true; the input reads as it did. -/
def habitOrderSpec : ChangeSpec := { name := "habitOrder", fn := fun _ => fun
  | [d1, d2, d3] => { results := [.lit (.bool true)], args := [d1, d2, d3] }
  | _ => none }
def habitOrderRow : OpenClaim := { program := "ytiikkcifdhcejaa", sum := "9a3510f03f746e78136a3175cb1f559d76e233eddb0b998b27d73063d7308537", func := "astragal/astragallaw09.HabitOrder", spec := "habitOrder", inPlace := ["math/bits.Add64"], unfollowed := true, recurses := true, apart := false }
def HabitOrderSaid : Prop := habitOrderRow.holds Try.pinned (OpenSpec.ofChange habitOrderSpec)

/-- ITS FALSE NEIGHBOUR: 'it returns false'. Refute it at one input. -/
def habitOrderWrong : ChangeSpec := { name := "habitOrder", fn := fun _ => fun
  | [d1, d2, d3] => { results := [.lit (.bool false)], args := [d1, d2, d3] }
  | _ => none }
def HabitOrderWrongFalsely : Prop := habitOrderRow.holds Try.pinned (OpenSpec.ofChange habitOrderWrong)

/-- 'astragallaw09.HabitBeliefs': WHATEVER THE INPUT: true; the input reads as it did. -/
def habitBeliefsSpec : ChangeSpec := { name := "habitBeliefs", fn := fun _ => fun
  | [d1, d2, d3] => { results := [.lit (.bool true)], args := [d1, d2, d3] }
  | _ => none }
def habitBeliefsRow : OpenClaim := { program := "ytiikkcifdhcejaa", sum := "9a3510f03f746e78136a3175cb1f559d76e233eddb0b998b27d73063d7308537", func := "astragal/astragallaw09.HabitBeliefs", spec := "habitBeliefs", inPlace := ["math/bits.Add64"], unfollowed := true, recurses := true, apart := false }
def HabitBeliefsSaid : Prop := habitBeliefsRow.holds Try.pinned (OpenSpec.ofChange habitBeliefsSpec)

/-- ITS FALSE NEIGHBOUR: 'it returns false'. Refute it at one input. -/
def habitBeliefsWrong : ChangeSpec := { name := "habitBeliefs", fn := fun _ => fun
  | [d1, d2, d3] => { results := [.lit (.bool false)], args := [d1, d2, d3] }
  | _ => none }
def HabitBeliefsWrongFalsely : Prop := habitBeliefsRow.holds Try.pinned (OpenSpec.ofChange habitBeliefsWrong)

/-- 'astragallaw09.HabitDecks': WHATEVER THE INPUT: true; the input reads as it did. -/
def habitDecksSpec : ChangeSpec := { name := "habitDecks", fn := fun _ => fun
  | [d1, d2, d3] => { results := [.lit (.bool true)], args := [d1, d2, d3] }
  | _ => none }
def habitDecksRow : OpenClaim := { program := "ytiikkcifdhcejaa", sum := "9a3510f03f746e78136a3175cb1f559d76e233eddb0b998b27d73063d7308537", func := "astragal/astragallaw09.HabitDecks", spec := "habitDecks", inPlace := ["math/bits.Add64"], unfollowed := true, recurses := true, apart := false }
def HabitDecksSaid : Prop := habitDecksRow.holds Try.pinned (OpenSpec.ofChange habitDecksSpec)

/-- ITS FALSE NEIGHBOUR: 'it returns false'. Refute it at one input. -/
def habitDecksWrong : ChangeSpec := { name := "habitDecks", fn := fun _ => fun
  | [d1, d2, d3] => { results := [.lit (.bool false)], args := [d1, d2, d3] }
  | _ => none }
def HabitDecksWrongFalsely : Prop := habitDecksRow.holds Try.pinned (OpenSpec.ofChange habitDecksWrong)

/-- 'astragallaw09.HabitCounts': WHATEVER THE INPUT: true; the input reads as it did. -/
def habitCountsSpec : ChangeSpec := { name := "habitCounts", fn := fun _ => fun
  | [d1, d2, d3] => { results := [.lit (.bool true)], args := [d1, d2, d3] }
  | _ => none }
def habitCountsRow : OpenClaim := { program := "ytiikkcifdhcejaa", sum := "9a3510f03f746e78136a3175cb1f559d76e233eddb0b998b27d73063d7308537", func := "astragal/astragallaw09.HabitCounts", spec := "habitCounts", inPlace := ["math/bits.Add64"], unfollowed := true, recurses := true, apart := false }
def HabitCountsSaid : Prop := habitCountsRow.holds Try.pinned (OpenSpec.ofChange habitCountsSpec)

/-- ITS FALSE NEIGHBOUR: 'it returns false'. Refute it at one input. -/
def habitCountsWrong : ChangeSpec := { name := "habitCounts", fn := fun _ => fun
  | [d1, d2, d3] => { results := [.lit (.bool false)], args := [d1, d2, d3] }
  | _ => none }
def HabitCountsWrongFalsely : Prop := habitCountsRow.holds Try.pinned (OpenSpec.ofChange habitCountsWrong)

/-- 'astragallaw09.HabitAll': WHATEVER THE INPUT: true; the input reads as it did. -/
def habitAllSpec : ChangeSpec := { name := "habitAll", fn := fun _ => fun
  | [d1, d2] => { results := [.lit (.bool true)], args := [d1, d2] }
  | _ => none }
def habitAllRow : OpenClaim := { program := "ytiikkcifdhcejaa", sum := "9a3510f03f746e78136a3175cb1f559d76e233eddb0b998b27d73063d7308537", func := "astragal/astragallaw09.HabitAll", spec := "habitAll", inPlace := ["math/bits.Add64"], unfollowed := true, recurses := true, named := ["math/bits.divideError", "math/bits.overflowError"], apart := false }
def HabitAllSaid : Prop := habitAllRow.holds Try.pinned (OpenSpec.ofChange habitAllSpec)

/-- ITS FALSE NEIGHBOUR: 'it returns false'. Refute it at one input. -/
def habitAllWrong : ChangeSpec := { name := "habitAll", fn := fun _ => fun
  | [d1, d2] => { results := [.lit (.bool false)], args := [d1, d2] }
  | _ => none }
def HabitAllWrongFalsely : Prop := habitAllRow.holds Try.pinned (OpenSpec.ofChange habitAllWrong)

/-- 'astragallaw09.HabitRanks': WHATEVER THE INPUT: true; the input reads as it did. -/
def habitRanksSpec : ChangeSpec := { name := "habitRanks", fn := fun _ => fun
  | [d1, d2] => { results := [.lit (.bool true)], args := [d1, d2] }
  | _ => none }
def habitRanksRow : OpenClaim := { program := "ytiikkcifdhcejaa", sum := "9a3510f03f746e78136a3175cb1f559d76e233eddb0b998b27d73063d7308537", func := "astragal/astragallaw09.HabitRanks", spec := "habitRanks", inPlace := ["math/bits.Add64"], unfollowed := true, recurses := true, apart := false }
def HabitRanksSaid : Prop := habitRanksRow.holds Try.pinned (OpenSpec.ofChange habitRanksSpec)

/-- ITS FALSE NEIGHBOUR: 'it returns false'. Refute it at one input. -/
def habitRanksWrong : ChangeSpec := { name := "habitRanks", fn := fun _ => fun
  | [d1, d2] => { results := [.lit (.bool false)], args := [d1, d2] }
  | _ => none }
def HabitRanksWrongFalsely : Prop := habitRanksRow.holds Try.pinned (OpenSpec.ofChange habitRanksWrong)

/- THE SECOND FORM. 'bulk': how many values and letters a reading holds, each counted each time it is reached (what is shared counts as often as it is met; a slice's spare places count too). A statement '..UptoSaid' is the law's where the arguments, and the package variables that the reading takes, are together of bulk at most 1048576: NARROWER than '..Said'. Prove '..Said' where nothing that the law and all that it calls make is longer than what came in: it says more and counts as full. Else prove '..UptoSaid'. A law counts once. -/
mutual
def uptoBulk {H : Type} : DataW H → Nat
  | .lit (.string bytes) => bytes.length + 1
  | .lit _ => 1
  | .nil => 1
  | .ptr d => uptoBulk d + 1
  | .slice elems spare => uptoBulkAll elems + uptoBulkAll spare + 1
  | .agg parts => uptoBulkAll parts + 1
  | .iface _ d => uptoBulk d + 1
  | .map entries => uptoBulkEntries entries + 1
  | .held _ => 1
def uptoBulkAll {H : Type} : List (DataW H) → Nat
  | [] => 0
  | d :: r => uptoBulk d + uptoBulkAll r
def uptoBulkEntries {H : Type} : List (Lit × DataW H) → Nat
  | [] => 0
  | x :: r => uptoBulkEntry x + uptoBulkEntries r
def uptoBulkEntry {H : Type} : Lit × DataW H → Nat
  | (.string bytes, d) => bytes.length + uptoBulk d + 1
  | (_, d) => uptoBulk d + 1
 end
def uptoSmall : (H : Type) → List (DataW H) → Bool := fun _ ds => decide (uptoBulkAll ds ≤ 1048576)
def OpenSpec.upto (s : _root_.Go.ChangeSpec) : _root_.Go.OpenSpec := { _root_.Go.OpenSpec.ofChange s with cond := some uptoSmall }

/-- 'astragallaw09.HabitCompares', WHERE WHAT IT READS IS OF BULK AT MOST 1048576: true; the input reads as it did. -/
def habitComparesUptoRow : OpenClaim := { program := "ytiikkcifdhcejaa", sum := "9a3510f03f746e78136a3175cb1f559d76e233eddb0b998b27d73063d7308537", func := "astragal/astragallaw09.HabitCompares", spec := "habitCompares", inPlace := ["math/bits.Add64"], unfollowed := true, recurses := true, apart := false, narrowed := true }
def HabitComparesUptoSaid : Prop := habitComparesUptoRow.holds Try.pinned (OpenSpec.upto habitComparesSpec)

/-- 'astragallaw09.HabitChanges', WHERE WHAT IT READS IS OF BULK AT MOST 1048576: true; the input reads as it did. -/
def habitChangesUptoRow : OpenClaim := { program := "ytiikkcifdhcejaa", sum := "9a3510f03f746e78136a3175cb1f559d76e233eddb0b998b27d73063d7308537", func := "astragal/astragallaw09.HabitChanges", spec := "habitChanges", inPlace := ["math/bits.Add64"], unfollowed := true, recurses := true, apart := false, narrowed := true }
def HabitChangesUptoSaid : Prop := habitChangesUptoRow.holds Try.pinned (OpenSpec.upto habitChangesSpec)

/-- 'astragallaw09.HabitOrder', WHERE WHAT IT READS IS OF BULK AT MOST 1048576: true; the input reads as it did. -/
def habitOrderUptoRow : OpenClaim := { program := "ytiikkcifdhcejaa", sum := "9a3510f03f746e78136a3175cb1f559d76e233eddb0b998b27d73063d7308537", func := "astragal/astragallaw09.HabitOrder", spec := "habitOrder", inPlace := ["math/bits.Add64"], unfollowed := true, recurses := true, apart := false, narrowed := true }
def HabitOrderUptoSaid : Prop := habitOrderUptoRow.holds Try.pinned (OpenSpec.upto habitOrderSpec)

/-- 'astragallaw09.HabitBeliefs', WHERE WHAT IT READS IS OF BULK AT MOST 1048576: true; the input reads as it did. -/
def habitBeliefsUptoRow : OpenClaim := { program := "ytiikkcifdhcejaa", sum := "9a3510f03f746e78136a3175cb1f559d76e233eddb0b998b27d73063d7308537", func := "astragal/astragallaw09.HabitBeliefs", spec := "habitBeliefs", inPlace := ["math/bits.Add64"], unfollowed := true, recurses := true, apart := false, narrowed := true }
def HabitBeliefsUptoSaid : Prop := habitBeliefsUptoRow.holds Try.pinned (OpenSpec.upto habitBeliefsSpec)

/-- 'astragallaw09.HabitDecks', WHERE WHAT IT READS IS OF BULK AT MOST 1048576: true; the input reads as it did. -/
def habitDecksUptoRow : OpenClaim := { program := "ytiikkcifdhcejaa", sum := "9a3510f03f746e78136a3175cb1f559d76e233eddb0b998b27d73063d7308537", func := "astragal/astragallaw09.HabitDecks", spec := "habitDecks", inPlace := ["math/bits.Add64"], unfollowed := true, recurses := true, apart := false, narrowed := true }
def HabitDecksUptoSaid : Prop := habitDecksUptoRow.holds Try.pinned (OpenSpec.upto habitDecksSpec)

/-- 'astragallaw09.HabitCounts', WHERE WHAT IT READS IS OF BULK AT MOST 1048576: true; the input reads as it did. -/
def habitCountsUptoRow : OpenClaim := { program := "ytiikkcifdhcejaa", sum := "9a3510f03f746e78136a3175cb1f559d76e233eddb0b998b27d73063d7308537", func := "astragal/astragallaw09.HabitCounts", spec := "habitCounts", inPlace := ["math/bits.Add64"], unfollowed := true, recurses := true, apart := false, narrowed := true }
def HabitCountsUptoSaid : Prop := habitCountsUptoRow.holds Try.pinned (OpenSpec.upto habitCountsSpec)

/-- 'astragallaw09.HabitAll', WHERE WHAT IT READS IS OF BULK AT MOST 1048576: true; the input reads as it did. -/
def habitAllUptoRow : OpenClaim := { program := "ytiikkcifdhcejaa", sum := "9a3510f03f746e78136a3175cb1f559d76e233eddb0b998b27d73063d7308537", func := "astragal/astragallaw09.HabitAll", spec := "habitAll", inPlace := ["math/bits.Add64"], unfollowed := true, recurses := true, named := ["math/bits.divideError", "math/bits.overflowError"], apart := false, narrowed := true }
def HabitAllUptoSaid : Prop := habitAllUptoRow.holds Try.pinned (OpenSpec.upto habitAllSpec)

/-- 'astragallaw09.HabitRanks', WHERE WHAT IT READS IS OF BULK AT MOST 1048576: true; the input reads as it did. -/
def habitRanksUptoRow : OpenClaim := { program := "ytiikkcifdhcejaa", sum := "9a3510f03f746e78136a3175cb1f559d76e233eddb0b998b27d73063d7308537", func := "astragal/astragallaw09.HabitRanks", spec := "habitRanks", inPlace := ["math/bits.Add64"], unfollowed := true, recurses := true, apart := false, narrowed := true }
def HabitRanksUptoSaid : Prop := habitRanksUptoRow.holds Try.pinned (OpenSpec.upto habitRanksSpec)

end Rows
end Go.Proofs.Ytiikkcifdhcejaa

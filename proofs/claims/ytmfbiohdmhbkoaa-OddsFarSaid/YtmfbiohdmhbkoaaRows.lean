/-
  No cell of these rows narrows 'for every input' (looked for: loops, veiled, ifaces, maps, wideKeys, modest, calm, conditions, laid).
  DERIVED. THE GIVEN ROWS OF THIS SEAT. 12 by the template 'for every input the law returns true; each argument reads behind the call as it read before'; 0 by the template 'total and deterministic' (their statements: YtmfbiohdmhbkoaaTotals.lean).
  GIVEN WITH THE SEED: the statements are not yours to turn. If you find one false, say at which input.
  Laid BY PROGRAM, IN A SANDBOX (cutbox-rows.mjs): the forced cells as the released guide's own fill.sh prints them over the translation e8b36cd4fd65a1f7… (all of the seat's roots in one cut). By AI agents, Wed Nov 11 2026. No macro, syntax, notation, axiom, sorry.
-/
import Derived.Test.YtmfbiohdmhbkoaaChecked
import GoSem.Claim
import GoSem.ClaimJoined
import GoSem.ClaimMapViews
import Derived.JoinedTies
import Derived.KernelRfl
namespace Go.Proofs.Ytmfbiohdmhbkoaa
/- THE CELL 'sum', in the pinned program and in every row, IS THE sha256 OF THE DUMP (.gsa) THAT YtmfbiohdmhbkoaaProg.lean LOADS. Nothing in Lean hashes anything: it is a label: what it is worth is what the hold of that sum in a sandbox is worth. -/
noncomputable def Try.pinned : Pinned := { name := "ytmfbiohdmhbkoaa", sum := "e8b36cd4fd65a1f77746ece4777235f32cc0a69fa026eeb477c21df909154798", checked := Try.checked }
namespace Rows
def none {H : Type} : Left H := { results := [], args := [] }

/-- 'astragallaw01.OddsRepeats': WHATEVER THE INPUT: true; the input reads as it did. -/
def oddsRepeatsSpec : ChangeSpec := { name := "oddsRepeats", fn := fun _ => fun
  | [d1, d2] => { results := [.lit (.bool true)], args := [d1, d2] }
  | _ => none }
def oddsRepeatsRow : OpenClaim := { program := "ytmfbiohdmhbkoaa", sum := "e8b36cd4fd65a1f77746ece4777235f32cc0a69fa026eeb477c21df909154798", func := "astragal/astragallaw01.OddsRepeats", spec := "oddsRepeats", inPlace := ["math/bits.Add64"], unfollowed := true, recurses := true, named := ["math/bits.divideError", "math/bits.overflowError"], apart := false }
def OddsRepeatsSaid : Prop := oddsRepeatsRow.holds Try.pinned (OpenSpec.ofChange oddsRepeatsSpec)

/-- ITS FALSE NEIGHBOUR: 'it returns false'. Refute it at one input. -/
def oddsRepeatsWrong : ChangeSpec := { name := "oddsRepeats", fn := fun _ => fun
  | [d1, d2] => { results := [.lit (.bool false)], args := [d1, d2] }
  | _ => none }
def OddsRepeatsWrongFalsely : Prop := oddsRepeatsRow.holds Try.pinned (OpenSpec.ofChange oddsRepeatsWrong)

/-- 'astragallaw01.OddsMixes': WHATEVER THE INPUT: true; the input reads as it did. -/
def oddsMixesSpec : ChangeSpec := { name := "oddsMixes", fn := fun _ => fun
  | [d1, d2] => { results := [.lit (.bool true)], args := [d1, d2] }
  | _ => none }
def oddsMixesRow : OpenClaim := { program := "ytmfbiohdmhbkoaa", sum := "e8b36cd4fd65a1f77746ece4777235f32cc0a69fa026eeb477c21df909154798", func := "astragal/astragallaw01.OddsMixes", spec := "oddsMixes", inPlace := ["math/bits.Add64"], unfollowed := true, recurses := true, named := ["math/bits.divideError", "math/bits.overflowError"], apart := false }
def OddsMixesSaid : Prop := oddsMixesRow.holds Try.pinned (OpenSpec.ofChange oddsMixesSpec)

/-- ITS FALSE NEIGHBOUR: 'it returns false'. Refute it at one input. -/
def oddsMixesWrong : ChangeSpec := { name := "oddsMixes", fn := fun _ => fun
  | [d1, d2] => { results := [.lit (.bool false)], args := [d1, d2] }
  | _ => none }
def OddsMixesWrongFalsely : Prop := oddsMixesRow.holds Try.pinned (OpenSpec.ofChange oddsMixesWrong)

/-- 'astragallaw01.OddsFair': WHATEVER THE INPUT: true; the input reads as it did. -/
def oddsFairSpec : ChangeSpec := { name := "oddsFair", fn := fun _ => fun
  | [d1, d2, d3] => { results := [.lit (.bool true)], args := [d1, d2, d3] }
  | _ => none }
def oddsFairRow : OpenClaim := { program := "ytmfbiohdmhbkoaa", sum := "e8b36cd4fd65a1f77746ece4777235f32cc0a69fa026eeb477c21df909154798", func := "astragal/astragallaw01.OddsFair", spec := "oddsFair", inPlace := ["math/bits.Add64"], unfollowed := true, recurses := true, named := ["math/bits.divideError", "math/bits.overflowError"], apart := false }
def OddsFairSaid : Prop := oddsFairRow.holds Try.pinned (OpenSpec.ofChange oddsFairSpec)

/-- ITS FALSE NEIGHBOUR: 'it returns false'. Refute it at one input. -/
def oddsFairWrong : ChangeSpec := { name := "oddsFair", fn := fun _ => fun
  | [d1, d2, d3] => { results := [.lit (.bool false)], args := [d1, d2, d3] }
  | _ => none }
def OddsFairWrongFalsely : Prop := oddsFairRow.holds Try.pinned (OpenSpec.ofChange oddsFairWrong)

/-- 'astragallaw01.OddsEven': WHATEVER THE INPUT: true; the input reads as it did. -/
def oddsEvenSpec : ChangeSpec := { name := "oddsEven", fn := fun _ => fun
  | [d1, d2, d3] => { results := [.lit (.bool true)], args := [d1, d2, d3] }
  | _ => none }
def oddsEvenRow : OpenClaim := { program := "ytmfbiohdmhbkoaa", sum := "e8b36cd4fd65a1f77746ece4777235f32cc0a69fa026eeb477c21df909154798", func := "astragal/astragallaw01.OddsEven", spec := "oddsEven", inPlace := ["math/bits.Add64"], unfollowed := true, recurses := true, named := ["math/bits.divideError", "math/bits.overflowError"], apart := false }
def OddsEvenSaid : Prop := oddsEvenRow.holds Try.pinned (OpenSpec.ofChange oddsEvenSpec)

/-- ITS FALSE NEIGHBOUR: 'it returns false'. Refute it at one input. -/
def oddsEvenWrong : ChangeSpec := { name := "oddsEven", fn := fun _ => fun
  | [d1, d2, d3] => { results := [.lit (.bool false)], args := [d1, d2, d3] }
  | _ => none }
def OddsEvenWrongFalsely : Prop := oddsEvenRow.holds Try.pinned (OpenSpec.ofChange oddsEvenWrong)

/-- 'astragallaw01.OddsMaps': WHATEVER THE INPUT: true; the input reads as it did. -/
def oddsMapsSpec : ChangeSpec := { name := "oddsMaps", fn := fun _ => fun
  | [d1, d2, d3] => { results := [.lit (.bool true)], args := [d1, d2, d3] }
  | _ => none }
def oddsMapsRow : OpenClaim := { program := "ytmfbiohdmhbkoaa", sum := "e8b36cd4fd65a1f77746ece4777235f32cc0a69fa026eeb477c21df909154798", func := "astragal/astragallaw01.OddsMaps", spec := "oddsMaps", inPlace := ["math/bits.Add64"], unfollowed := true, recurses := true, named := ["math/bits.divideError", "math/bits.overflowError"], apart := false }
def OddsMapsSaid : Prop := oddsMapsRow.holds Try.pinned (OpenSpec.ofChange oddsMapsSpec)

/-- ITS FALSE NEIGHBOUR: 'it returns false'. Refute it at one input. -/
def oddsMapsWrong : ChangeSpec := { name := "oddsMaps", fn := fun _ => fun
  | [d1, d2, d3] => { results := [.lit (.bool false)], args := [d1, d2, d3] }
  | _ => none }
def OddsMapsWrongFalsely : Prop := oddsMapsRow.holds Try.pinned (OpenSpec.ofChange oddsMapsWrong)

/-- 'astragallaw01.OddsSums': WHATEVER THE INPUT: true; the input reads as it did. -/
def oddsSumsSpec : ChangeSpec := { name := "oddsSums", fn := fun _ => fun
  | [d1, d2, d3] => { results := [.lit (.bool true)], args := [d1, d2, d3] }
  | _ => none }
def oddsSumsRow : OpenClaim := { program := "ytmfbiohdmhbkoaa", sum := "e8b36cd4fd65a1f77746ece4777235f32cc0a69fa026eeb477c21df909154798", func := "astragal/astragallaw01.OddsSums", spec := "oddsSums", inPlace := ["math/bits.Add64"], unfollowed := true, recurses := true, named := ["math/bits.divideError", "math/bits.overflowError"], apart := false }
def OddsSumsSaid : Prop := oddsSumsRow.holds Try.pinned (OpenSpec.ofChange oddsSumsSpec)

/-- ITS FALSE NEIGHBOUR: 'it returns false'. Refute it at one input. -/
def oddsSumsWrong : ChangeSpec := { name := "oddsSums", fn := fun _ => fun
  | [d1, d2, d3] => { results := [.lit (.bool false)], args := [d1, d2, d3] }
  | _ => none }
def OddsSumsWrongFalsely : Prop := oddsSumsRow.holds Try.pinned (OpenSpec.ofChange oddsSumsWrong)

/-- 'astragallaw01.OddsLists': WHATEVER THE INPUT: true; the input reads as it did. -/
def oddsListsSpec : ChangeSpec := { name := "oddsLists", fn := fun _ => fun
  | [d1, d2] => { results := [.lit (.bool true)], args := [d1, d2] }
  | _ => none }
def oddsListsRow : OpenClaim := { program := "ytmfbiohdmhbkoaa", sum := "e8b36cd4fd65a1f77746ece4777235f32cc0a69fa026eeb477c21df909154798", func := "astragal/astragallaw01.OddsLists", spec := "oddsLists", inPlace := ["math/bits.Add64"], unfollowed := true, recurses := true, named := ["math/bits.divideError", "math/bits.overflowError"], apart := false }
def OddsListsSaid : Prop := oddsListsRow.holds Try.pinned (OpenSpec.ofChange oddsListsSpec)

/-- ITS FALSE NEIGHBOUR: 'it returns false'. Refute it at one input. -/
def oddsListsWrong : ChangeSpec := { name := "oddsLists", fn := fun _ => fun
  | [d1, d2] => { results := [.lit (.bool false)], args := [d1, d2] }
  | _ => none }
def OddsListsWrongFalsely : Prop := oddsListsRow.holds Try.pinned (OpenSpec.ofChange oddsListsWrong)

/-- 'astragallaw01.OddsChances': WHATEVER THE INPUT: true; the input reads as it did. -/
def oddsChancesSpec : ChangeSpec := { name := "oddsChances", fn := fun _ => fun
  | [d1, d2] => { results := [.lit (.bool true)], args := [d1, d2] }
  | _ => none }
def oddsChancesRow : OpenClaim := { program := "ytmfbiohdmhbkoaa", sum := "e8b36cd4fd65a1f77746ece4777235f32cc0a69fa026eeb477c21df909154798", func := "astragal/astragallaw01.OddsChances", spec := "oddsChances", inPlace := ["math/bits.Add64"], unfollowed := true, recurses := true, named := ["math/bits.divideError", "math/bits.overflowError"], apart := false }
def OddsChancesSaid : Prop := oddsChancesRow.holds Try.pinned (OpenSpec.ofChange oddsChancesSpec)

/-- ITS FALSE NEIGHBOUR: 'it returns false'. Refute it at one input. -/
def oddsChancesWrong : ChangeSpec := { name := "oddsChances", fn := fun _ => fun
  | [d1, d2] => { results := [.lit (.bool false)], args := [d1, d2] }
  | _ => none }
def OddsChancesWrongFalsely : Prop := oddsChancesRow.holds Try.pinned (OpenSpec.ofChange oddsChancesWrong)

/-- 'astragallaw01.OddsPairs': WHATEVER THE INPUT: true; the input reads as it did. -/
def oddsPairsSpec : ChangeSpec := { name := "oddsPairs", fn := fun _ => fun
  | [d1, d2] => { results := [.lit (.bool true)], args := [d1, d2] }
  | _ => none }
def oddsPairsRow : OpenClaim := { program := "ytmfbiohdmhbkoaa", sum := "e8b36cd4fd65a1f77746ece4777235f32cc0a69fa026eeb477c21df909154798", func := "astragal/astragallaw01.OddsPairs", spec := "oddsPairs", inPlace := ["math/bits.Add64"], unfollowed := true, recurses := true, named := ["math/bits.divideError", "math/bits.overflowError"], apart := false }
def OddsPairsSaid : Prop := oddsPairsRow.holds Try.pinned (OpenSpec.ofChange oddsPairsSpec)

/-- ITS FALSE NEIGHBOUR: 'it returns false'. Refute it at one input. -/
def oddsPairsWrong : ChangeSpec := { name := "oddsPairs", fn := fun _ => fun
  | [d1, d2] => { results := [.lit (.bool false)], args := [d1, d2] }
  | _ => none }
def OddsPairsWrongFalsely : Prop := oddsPairsRow.holds Try.pinned (OpenSpec.ofChange oddsPairsWrong)

/-- 'astragallaw01.OddsCounts': WHATEVER THE INPUT: true; the input reads as it did. -/
def oddsCountsSpec : ChangeSpec := { name := "oddsCounts", fn := fun _ => fun
  | [d1, d2] => { results := [.lit (.bool true)], args := [d1, d2] }
  | _ => none }
def oddsCountsRow : OpenClaim := { program := "ytmfbiohdmhbkoaa", sum := "e8b36cd4fd65a1f77746ece4777235f32cc0a69fa026eeb477c21df909154798", func := "astragal/astragallaw01.OddsCounts", spec := "oddsCounts", inPlace := ["math/bits.Add64"], unfollowed := true, recurses := true, named := ["math/bits.divideError", "math/bits.overflowError"], apart := false }
def OddsCountsSaid : Prop := oddsCountsRow.holds Try.pinned (OpenSpec.ofChange oddsCountsSpec)

/-- ITS FALSE NEIGHBOUR: 'it returns false'. Refute it at one input. -/
def oddsCountsWrong : ChangeSpec := { name := "oddsCounts", fn := fun _ => fun
  | [d1, d2] => { results := [.lit (.bool false)], args := [d1, d2] }
  | _ => none }
def OddsCountsWrongFalsely : Prop := oddsCountsRow.holds Try.pinned (OpenSpec.ofChange oddsCountsWrong)

/-- 'astragallaw01.OddsFar': WHATEVER THE INPUT: true; the input reads as it did. -/
def oddsFarSpec : ChangeSpec := { name := "oddsFar", fn := fun _ => fun
  | [d1, d2, d3] => { results := [.lit (.bool true)], args := [d1, d2, d3] }
  | _ => none }
def oddsFarRow : OpenClaim := { program := "ytmfbiohdmhbkoaa", sum := "e8b36cd4fd65a1f77746ece4777235f32cc0a69fa026eeb477c21df909154798", func := "astragal/astragallaw01.OddsFar", spec := "oddsFar", inPlace := ["math/bits.Add64"], unfollowed := true, recurses := true, named := ["math/bits.divideError", "math/bits.overflowError"], apart := false }
def OddsFarSaid : Prop := oddsFarRow.holds Try.pinned (OpenSpec.ofChange oddsFarSpec)

/-- ITS FALSE NEIGHBOUR: 'it returns false'. Refute it at one input. -/
def oddsFarWrong : ChangeSpec := { name := "oddsFar", fn := fun _ => fun
  | [d1, d2, d3] => { results := [.lit (.bool false)], args := [d1, d2, d3] }
  | _ => none }
def OddsFarWrongFalsely : Prop := oddsFarRow.holds Try.pinned (OpenSpec.ofChange oddsFarWrong)

/-- 'astragallaw01.OddsAllCases': WHATEVER THE INPUT: true; the input reads as it did. -/
def oddsAllCasesSpec : ChangeSpec := { name := "oddsAllCases", fn := fun _ => fun
  | [d1, d2, d3] => { results := [.lit (.bool true)], args := [d1, d2, d3] }
  | _ => none }
def oddsAllCasesRow : OpenClaim := { program := "ytmfbiohdmhbkoaa", sum := "e8b36cd4fd65a1f77746ece4777235f32cc0a69fa026eeb477c21df909154798", func := "astragal/astragallaw01.OddsAllCases", spec := "oddsAllCases", inPlace := ["math/bits.Add64"], unfollowed := true, recurses := true, named := ["math/bits.divideError", "math/bits.overflowError"], apart := false }
def OddsAllCasesSaid : Prop := oddsAllCasesRow.holds Try.pinned (OpenSpec.ofChange oddsAllCasesSpec)

/-- ITS FALSE NEIGHBOUR: 'it returns false'. Refute it at one input. -/
def oddsAllCasesWrong : ChangeSpec := { name := "oddsAllCases", fn := fun _ => fun
  | [d1, d2, d3] => { results := [.lit (.bool false)], args := [d1, d2, d3] }
  | _ => none }
def OddsAllCasesWrongFalsely : Prop := oddsAllCasesRow.holds Try.pinned (OpenSpec.ofChange oddsAllCasesWrong)

/- THE SECOND FORM. 'bulk': how many values and letters a reading holds, each counted each time it is reached (what is shared counts as often as it is met; a slice's spare places count too). A statement '..UptoSaid' is the law's where the arguments, and the package variables that the reading takes, are together of bulk at most 1048576: NARROWER than '..Said'. Prove '..Said' where nothing that the law and all that it calls make is longer than what came in: it says more and counts as full. Else prove '..UptoSaid'. A law counts once. -/
mutual
def uptoBulk {H : Type} : DataW H → Nat
  | .lit (.string bytes) => bytes.length + 1
  | .lit _ => 1
  | .nil => 1
  | .ptr d => uptoBulk d + 1
  | .slice elems spare => uptoBulkAll elems + uptoBulkAll spare + 1
  | .agg parts => uptoBulkAll parts + 1
  | .iface _ d => uptoBulk d + 1
  | .map entries => uptoBulkEntries entries + 1
  | .held _ => 1
def uptoBulkAll {H : Type} : List (DataW H) → Nat
  | [] => 0
  | d :: r => uptoBulk d + uptoBulkAll r
def uptoBulkEntries {H : Type} : List (Lit × DataW H) → Nat
  | [] => 0
  | x :: r => uptoBulkEntry x + uptoBulkEntries r
def uptoBulkEntry {H : Type} : Lit × DataW H → Nat
  | (.string bytes, d) => bytes.length + uptoBulk d + 1
  | (_, d) => uptoBulk d + 1
 end
def uptoSmall : (H : Type) → List (DataW H) → Bool := fun _ ds => decide (uptoBulkAll ds ≤ 1048576)
def OpenSpec.upto (s : _root_.Go.ChangeSpec) : _root_.Go.OpenSpec := { _root_.Go.OpenSpec.ofChange s with cond := some uptoSmall }

/-- 'astragallaw01.OddsRepeats', WHERE WHAT IT READS IS OF BULK AT MOST 1048576: true; the input reads as it did. -/
def oddsRepeatsUptoRow : OpenClaim := { program := "ytmfbiohdmhbkoaa", sum := "e8b36cd4fd65a1f77746ece4777235f32cc0a69fa026eeb477c21df909154798", func := "astragal/astragallaw01.OddsRepeats", spec := "oddsRepeats", inPlace := ["math/bits.Add64"], unfollowed := true, recurses := true, named := ["math/bits.divideError", "math/bits.overflowError"], apart := false, narrowed := true }
def OddsRepeatsUptoSaid : Prop := oddsRepeatsUptoRow.holds Try.pinned (OpenSpec.upto oddsRepeatsSpec)

/-- 'astragallaw01.OddsMixes', WHERE WHAT IT READS IS OF BULK AT MOST 1048576: true; the input reads as it did. -/
def oddsMixesUptoRow : OpenClaim := { program := "ytmfbiohdmhbkoaa", sum := "e8b36cd4fd65a1f77746ece4777235f32cc0a69fa026eeb477c21df909154798", func := "astragal/astragallaw01.OddsMixes", spec := "oddsMixes", inPlace := ["math/bits.Add64"], unfollowed := true, recurses := true, named := ["math/bits.divideError", "math/bits.overflowError"], apart := false, narrowed := true }
def OddsMixesUptoSaid : Prop := oddsMixesUptoRow.holds Try.pinned (OpenSpec.upto oddsMixesSpec)

/-- 'astragallaw01.OddsFair', WHERE WHAT IT READS IS OF BULK AT MOST 1048576: true; the input reads as it did. -/
def oddsFairUptoRow : OpenClaim := { program := "ytmfbiohdmhbkoaa", sum := "e8b36cd4fd65a1f77746ece4777235f32cc0a69fa026eeb477c21df909154798", func := "astragal/astragallaw01.OddsFair", spec := "oddsFair", inPlace := ["math/bits.Add64"], unfollowed := true, recurses := true, named := ["math/bits.divideError", "math/bits.overflowError"], apart := false, narrowed := true }
def OddsFairUptoSaid : Prop := oddsFairUptoRow.holds Try.pinned (OpenSpec.upto oddsFairSpec)

/-- 'astragallaw01.OddsEven', WHERE WHAT IT READS IS OF BULK AT MOST 1048576: true; the input reads as it did. -/
def oddsEvenUptoRow : OpenClaim := { program := "ytmfbiohdmhbkoaa", sum := "e8b36cd4fd65a1f77746ece4777235f32cc0a69fa026eeb477c21df909154798", func := "astragal/astragallaw01.OddsEven", spec := "oddsEven", inPlace := ["math/bits.Add64"], unfollowed := true, recurses := true, named := ["math/bits.divideError", "math/bits.overflowError"], apart := false, narrowed := true }
def OddsEvenUptoSaid : Prop := oddsEvenUptoRow.holds Try.pinned (OpenSpec.upto oddsEvenSpec)

/-- 'astragallaw01.OddsMaps', WHERE WHAT IT READS IS OF BULK AT MOST 1048576: true; the input reads as it did. -/
def oddsMapsUptoRow : OpenClaim := { program := "ytmfbiohdmhbkoaa", sum := "e8b36cd4fd65a1f77746ece4777235f32cc0a69fa026eeb477c21df909154798", func := "astragal/astragallaw01.OddsMaps", spec := "oddsMaps", inPlace := ["math/bits.Add64"], unfollowed := true, recurses := true, named := ["math/bits.divideError", "math/bits.overflowError"], apart := false, narrowed := true }
def OddsMapsUptoSaid : Prop := oddsMapsUptoRow.holds Try.pinned (OpenSpec.upto oddsMapsSpec)

/-- 'astragallaw01.OddsSums', WHERE WHAT IT READS IS OF BULK AT MOST 1048576: true; the input reads as it did. -/
def oddsSumsUptoRow : OpenClaim := { program := "ytmfbiohdmhbkoaa", sum := "e8b36cd4fd65a1f77746ece4777235f32cc0a69fa026eeb477c21df909154798", func := "astragal/astragallaw01.OddsSums", spec := "oddsSums", inPlace := ["math/bits.Add64"], unfollowed := true, recurses := true, named := ["math/bits.divideError", "math/bits.overflowError"], apart := false, narrowed := true }
def OddsSumsUptoSaid : Prop := oddsSumsUptoRow.holds Try.pinned (OpenSpec.upto oddsSumsSpec)

/-- 'astragallaw01.OddsLists', WHERE WHAT IT READS IS OF BULK AT MOST 1048576: true; the input reads as it did. -/
def oddsListsUptoRow : OpenClaim := { program := "ytmfbiohdmhbkoaa", sum := "e8b36cd4fd65a1f77746ece4777235f32cc0a69fa026eeb477c21df909154798", func := "astragal/astragallaw01.OddsLists", spec := "oddsLists", inPlace := ["math/bits.Add64"], unfollowed := true, recurses := true, named := ["math/bits.divideError", "math/bits.overflowError"], apart := false, narrowed := true }
def OddsListsUptoSaid : Prop := oddsListsUptoRow.holds Try.pinned (OpenSpec.upto oddsListsSpec)

/-- 'astragallaw01.OddsChances', WHERE WHAT IT READS IS OF BULK AT MOST 1048576: true; the input reads as it did. -/
def oddsChancesUptoRow : OpenClaim := { program := "ytmfbiohdmhbkoaa", sum := "e8b36cd4fd65a1f77746ece4777235f32cc0a69fa026eeb477c21df909154798", func := "astragal/astragallaw01.OddsChances", spec := "oddsChances", inPlace := ["math/bits.Add64"], unfollowed := true, recurses := true, named := ["math/bits.divideError", "math/bits.overflowError"], apart := false, narrowed := true }
def OddsChancesUptoSaid : Prop := oddsChancesUptoRow.holds Try.pinned (OpenSpec.upto oddsChancesSpec)

/-- 'astragallaw01.OddsPairs', WHERE WHAT IT READS IS OF BULK AT MOST 1048576: true; the input reads as it did. -/
def oddsPairsUptoRow : OpenClaim := { program := "ytmfbiohdmhbkoaa", sum := "e8b36cd4fd65a1f77746ece4777235f32cc0a69fa026eeb477c21df909154798", func := "astragal/astragallaw01.OddsPairs", spec := "oddsPairs", inPlace := ["math/bits.Add64"], unfollowed := true, recurses := true, named := ["math/bits.divideError", "math/bits.overflowError"], apart := false, narrowed := true }
def OddsPairsUptoSaid : Prop := oddsPairsUptoRow.holds Try.pinned (OpenSpec.upto oddsPairsSpec)

/-- 'astragallaw01.OddsCounts', WHERE WHAT IT READS IS OF BULK AT MOST 1048576: true; the input reads as it did. -/
def oddsCountsUptoRow : OpenClaim := { program := "ytmfbiohdmhbkoaa", sum := "e8b36cd4fd65a1f77746ece4777235f32cc0a69fa026eeb477c21df909154798", func := "astragal/astragallaw01.OddsCounts", spec := "oddsCounts", inPlace := ["math/bits.Add64"], unfollowed := true, recurses := true, named := ["math/bits.divideError", "math/bits.overflowError"], apart := false, narrowed := true }
def OddsCountsUptoSaid : Prop := oddsCountsUptoRow.holds Try.pinned (OpenSpec.upto oddsCountsSpec)

/-- 'astragallaw01.OddsFar', WHERE WHAT IT READS IS OF BULK AT MOST 1048576: true; the input reads as it did. -/
def oddsFarUptoRow : OpenClaim := { program := "ytmfbiohdmhbkoaa", sum := "e8b36cd4fd65a1f77746ece4777235f32cc0a69fa026eeb477c21df909154798", func := "astragal/astragallaw01.OddsFar", spec := "oddsFar", inPlace := ["math/bits.Add64"], unfollowed := true, recurses := true, named := ["math/bits.divideError", "math/bits.overflowError"], apart := false, narrowed := true }
def OddsFarUptoSaid : Prop := oddsFarUptoRow.holds Try.pinned (OpenSpec.upto oddsFarSpec)

/-- 'astragallaw01.OddsAllCases', WHERE WHAT IT READS IS OF BULK AT MOST 1048576: true; the input reads as it did. -/
def oddsAllCasesUptoRow : OpenClaim := { program := "ytmfbiohdmhbkoaa", sum := "e8b36cd4fd65a1f77746ece4777235f32cc0a69fa026eeb477c21df909154798", func := "astragal/astragallaw01.OddsAllCases", spec := "oddsAllCases", inPlace := ["math/bits.Add64"], unfollowed := true, recurses := true, named := ["math/bits.divideError", "math/bits.overflowError"], apart := false, narrowed := true }
def OddsAllCasesUptoSaid : Prop := oddsAllCasesUptoRow.holds Try.pinned (OpenSpec.upto oddsAllCasesSpec)

end Rows
end Go.Proofs.Ytmfbiohdmhbkoaa

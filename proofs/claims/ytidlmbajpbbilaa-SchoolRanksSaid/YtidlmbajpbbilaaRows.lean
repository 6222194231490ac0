/-
  No cell of these rows narrows 'for every input' (looked for: loops, veiled, ifaces, maps, wideKeys, modest, calm, conditions, laid).
  DERIVED. THE GIVEN ROWS OF THIS SEAT. 11 by the template 'for every input the law returns true; each argument reads behind the call as it read before'; 0 by the template 'total and deterministic' (their statements: YtidlmbajpbbilaaTotals.lean).
  GIVEN WITH THE SEED: the statements are not yours to turn. If you find one false, say at which input.
  Laid BY PROGRAM, IN A SANDBOX (cutbox-rows.mjs): the forced cells as the released guide's own fill.sh prints them over the translation b3d406bec1e98d7b… (all of the seat's roots in one cut). By AI agents, Wed Nov 11 2026. No macro, syntax, notation, axiom, sorry.
-/
import Derived.Test.YtidlmbajpbbilaaChecked
import GoSem.Claim
import GoSem.ClaimJoined
import GoSem.ClaimMapViews
import Derived.JoinedTies
import Derived.KernelRfl
namespace Go.Proofs.Ytidlmbajpbbilaa
/- THE CELL 'sum', in the pinned program and in every row, IS THE sha256 OF THE DUMP (.gsa) THAT YtidlmbajpbbilaaProg.lean LOADS. Nothing in Lean hashes anything: it is a label: what it is worth is what the hold of that sum in a sandbox is worth. -/
noncomputable def Try.pinned : Pinned := { name := "ytidlmbajpbbilaa", sum := "b3d406bec1e98d7bdcb71222ed5829eb9f7db11cdf44da3087c85eb6e4d008bc", checked := Try.checked }
namespace Rows
def none {H : Type} : Left H := { results := [], args := [] }

/-- 'astragallaw06.SchoolCounts': WHATEVER THE INPUT: true; the input reads as it did. -/
def schoolCountsSpec : ChangeSpec := { name := "schoolCounts", fn := fun _ => fun
  | [d1, d2, d3] => { results := [.lit (.bool true)], args := [d1, d2, d3] }
  | _ => none }
def schoolCountsRow : OpenClaim := { program := "ytidlmbajpbbilaa", sum := "b3d406bec1e98d7bdcb71222ed5829eb9f7db11cdf44da3087c85eb6e4d008bc", func := "astragal/astragallaw06.SchoolCounts", spec := "schoolCounts", unfollowed := true, recurses := true, plainKeys := false, apart := false }
def SchoolCountsSaid : Prop := schoolCountsRow.holds Try.pinned (OpenSpec.ofChange schoolCountsSpec)

/-- ITS FALSE NEIGHBOUR: 'it returns false'. Refute it at one input. -/
def schoolCountsWrong : ChangeSpec := { name := "schoolCounts", fn := fun _ => fun
  | [d1, d2, d3] => { results := [.lit (.bool false)], args := [d1, d2, d3] }
  | _ => none }
def SchoolCountsWrongFalsely : Prop := schoolCountsRow.holds Try.pinned (OpenSpec.ofChange schoolCountsWrong)

/-- 'astragallaw06.SchoolKeeps': WHATEVER THE INPUT: true; the input reads as it did. -/
def schoolKeepsSpec : ChangeSpec := { name := "schoolKeeps", fn := fun _ => fun
  | [d1, d2] => { results := [.lit (.bool true)], args := [d1, d2] }
  | _ => none }
def schoolKeepsRow : OpenClaim := { program := "ytidlmbajpbbilaa", sum := "b3d406bec1e98d7bdcb71222ed5829eb9f7db11cdf44da3087c85eb6e4d008bc", func := "astragal/astragallaw06.SchoolKeeps", spec := "schoolKeeps", unfollowed := true, recurses := true, plainKeys := false, apart := false }
def SchoolKeepsSaid : Prop := schoolKeepsRow.holds Try.pinned (OpenSpec.ofChange schoolKeepsSpec)

/-- ITS FALSE NEIGHBOUR: 'it returns false'. Refute it at one input. -/
def schoolKeepsWrong : ChangeSpec := { name := "schoolKeeps", fn := fun _ => fun
  | [d1, d2] => { results := [.lit (.bool false)], args := [d1, d2] }
  | _ => none }
def SchoolKeepsWrongFalsely : Prop := schoolKeepsRow.holds Try.pinned (OpenSpec.ofChange schoolKeepsWrong)

/-- 'astragallaw06.SchoolGlosses': WHATEVER THE INPUT: true; the input reads as it did. -/
def schoolGlossesSpec : ChangeSpec := { name := "schoolGlosses", fn := fun _ => fun
  | [d1, d2, d3] => { results := [.lit (.bool true)], args := [d1, d2, d3] }
  | _ => none }
def schoolGlossesRow : OpenClaim := { program := "ytidlmbajpbbilaa", sum := "b3d406bec1e98d7bdcb71222ed5829eb9f7db11cdf44da3087c85eb6e4d008bc", func := "astragal/astragallaw06.SchoolGlosses", spec := "schoolGlosses", unfollowed := true, recurses := true, plainKeys := false, apart := false }
def SchoolGlossesSaid : Prop := schoolGlossesRow.holds Try.pinned (OpenSpec.ofChange schoolGlossesSpec)

/-- ITS FALSE NEIGHBOUR: 'it returns false'. Refute it at one input. -/
def schoolGlossesWrong : ChangeSpec := { name := "schoolGlosses", fn := fun _ => fun
  | [d1, d2, d3] => { results := [.lit (.bool false)], args := [d1, d2, d3] }
  | _ => none }
def SchoolGlossesWrongFalsely : Prop := schoolGlossesRow.holds Try.pinned (OpenSpec.ofChange schoolGlossesWrong)

/-- 'astragallaw06.SchoolAdds': WHATEVER THE INPUT: true; the input reads as it did. -/
def schoolAddsSpec : ChangeSpec := { name := "schoolAdds", fn := fun _ => fun
  | [d1, d2, d3] => { results := [.lit (.bool true)], args := [d1, d2, d3] }
  | _ => none }
def schoolAddsRow : OpenClaim := { program := "ytidlmbajpbbilaa", sum := "b3d406bec1e98d7bdcb71222ed5829eb9f7db11cdf44da3087c85eb6e4d008bc", func := "astragal/astragallaw06.SchoolAdds", spec := "schoolAdds", unfollowed := true, recurses := true, plainKeys := false, apart := false }
def SchoolAddsSaid : Prop := schoolAddsRow.holds Try.pinned (OpenSpec.ofChange schoolAddsSpec)

/-- ITS FALSE NEIGHBOUR: 'it returns false'. Refute it at one input. -/
def schoolAddsWrong : ChangeSpec := { name := "schoolAdds", fn := fun _ => fun
  | [d1, d2, d3] => { results := [.lit (.bool false)], args := [d1, d2, d3] }
  | _ => none }
def SchoolAddsWrongFalsely : Prop := schoolAddsRow.holds Try.pinned (OpenSpec.ofChange schoolAddsWrong)

/-- 'astragallaw06.SchoolTotal': WHATEVER THE INPUT: true; the input reads as it did. -/
def schoolTotalSpec : ChangeSpec := { name := "schoolTotal", fn := fun _ => fun
  | [d1, d2, d3] => { results := [.lit (.bool true)], args := [d1, d2, d3] }
  | _ => none }
def schoolTotalRow : OpenClaim := { program := "ytidlmbajpbbilaa", sum := "b3d406bec1e98d7bdcb71222ed5829eb9f7db11cdf44da3087c85eb6e4d008bc", func := "astragal/astragallaw06.SchoolTotal", spec := "schoolTotal", unfollowed := true, recurses := true, plainKeys := false, apart := false }
def SchoolTotalSaid : Prop := schoolTotalRow.holds Try.pinned (OpenSpec.ofChange schoolTotalSpec)

/-- ITS FALSE NEIGHBOUR: 'it returns false'. Refute it at one input. -/
def schoolTotalWrong : ChangeSpec := { name := "schoolTotal", fn := fun _ => fun
  | [d1, d2, d3] => { results := [.lit (.bool false)], args := [d1, d2, d3] }
  | _ => none }
def SchoolTotalWrongFalsely : Prop := schoolTotalRow.holds Try.pinned (OpenSpec.ofChange schoolTotalWrong)

/-- 'astragallaw06.SchoolDiffers': WHATEVER THE INPUT: true; the input reads as it did. -/
def schoolDiffersSpec : ChangeSpec := { name := "schoolDiffers", fn := fun _ => fun
  | [d1, d2, d3] => { results := [.lit (.bool true)], args := [d1, d2, d3] }
  | _ => none }
def schoolDiffersRow : OpenClaim := { program := "ytidlmbajpbbilaa", sum := "b3d406bec1e98d7bdcb71222ed5829eb9f7db11cdf44da3087c85eb6e4d008bc", func := "astragal/astragallaw06.SchoolDiffers", spec := "schoolDiffers", unfollowed := true, recurses := true, plainKeys := false, apart := false }
def SchoolDiffersSaid : Prop := schoolDiffersRow.holds Try.pinned (OpenSpec.ofChange schoolDiffersSpec)

/-- ITS FALSE NEIGHBOUR: 'it returns false'. Refute it at one input. -/
def schoolDiffersWrong : ChangeSpec := { name := "schoolDiffers", fn := fun _ => fun
  | [d1, d2, d3] => { results := [.lit (.bool false)], args := [d1, d2, d3] }
  | _ => none }
def SchoolDiffersWrongFalsely : Prop := schoolDiffersRow.holds Try.pinned (OpenSpec.ofChange schoolDiffersWrong)

/-- 'astragallaw06.SchoolRanks': WHATEVER THE INPUT: true; the input reads as it did. -/
def schoolRanksSpec : ChangeSpec := { name := "schoolRanks", fn := fun _ => fun
  | [d1, d2, d3] => { results := [.lit (.bool true)], args := [d1, d2, d3] }
  | _ => none }
def schoolRanksRow : OpenClaim := { program := "ytidlmbajpbbilaa", sum := "b3d406bec1e98d7bdcb71222ed5829eb9f7db11cdf44da3087c85eb6e4d008bc", func := "astragal/astragallaw06.SchoolRanks", spec := "schoolRanks", unfollowed := true, recurses := true, plainKeys := false, apart := false }
def SchoolRanksSaid : Prop := schoolRanksRow.holds Try.pinned (OpenSpec.ofChange schoolRanksSpec)

/-- ITS FALSE NEIGHBOUR: 'it returns false'. Refute it at one input. -/
def schoolRanksWrong : ChangeSpec := { name := "schoolRanks", fn := fun _ => fun
  | [d1, d2, d3] => { results := [.lit (.bool false)], args := [d1, d2, d3] }
  | _ => none }
def SchoolRanksWrongFalsely : Prop := schoolRanksRow.holds Try.pinned (OpenSpec.ofChange schoolRanksWrong)

/-- 'astragallaw06.SchoolReads': WHATEVER THE INPUT: true; the input reads as it did. -/
def schoolReadsSpec : ChangeSpec := { name := "schoolReads", fn := fun _ => fun
  | [d1, d2, d3] => { results := [.lit (.bool true)], args := [d1, d2, d3] }
  | _ => none }
def schoolReadsRow : OpenClaim := { program := "ytidlmbajpbbilaa", sum := "b3d406bec1e98d7bdcb71222ed5829eb9f7db11cdf44da3087c85eb6e4d008bc", func := "astragal/astragallaw06.SchoolReads", spec := "schoolReads", unfollowed := true, recurses := true, plainKeys := false, apart := false }
def SchoolReadsSaid : Prop := schoolReadsRow.holds Try.pinned (OpenSpec.ofChange schoolReadsSpec)

/-- ITS FALSE NEIGHBOUR: 'it returns false'. Refute it at one input. -/
def schoolReadsWrong : ChangeSpec := { name := "schoolReads", fn := fun _ => fun
  | [d1, d2, d3] => { results := [.lit (.bool false)], args := [d1, d2, d3] }
  | _ => none }
def SchoolReadsWrongFalsely : Prop := schoolReadsRow.holds Try.pinned (OpenSpec.ofChange schoolReadsWrong)

/-- 'astragallaw06.SchoolIdles': WHATEVER THE INPUT: true; the input reads as it did. -/
def schoolIdlesSpec : ChangeSpec := { name := "schoolIdles", fn := fun _ => fun
  | [d] => { results := [.lit (.bool true)], args := [d] }
  | _ => none }
def schoolIdlesRow : OpenClaim := { program := "ytidlmbajpbbilaa", sum := "b3d406bec1e98d7bdcb71222ed5829eb9f7db11cdf44da3087c85eb6e4d008bc", func := "astragal/astragallaw06.SchoolIdles", spec := "schoolIdles", unfollowed := true, recurses := true, plainKeys := false, apart := false }
def SchoolIdlesSaid : Prop := schoolIdlesRow.holds Try.pinned (OpenSpec.ofChange schoolIdlesSpec)

/-- ITS FALSE NEIGHBOUR: 'it returns false'. Refute it at one input. -/
def schoolIdlesWrong : ChangeSpec := { name := "schoolIdles", fn := fun _ => fun
  | [d] => { results := [.lit (.bool false)], args := [d] }
  | _ => none }
def SchoolIdlesWrongFalsely : Prop := schoolIdlesRow.holds Try.pinned (OpenSpec.ofChange schoolIdlesWrong)

/-- 'astragallaw06.SchoolComments': WHATEVER THE INPUT: true; the input reads as it did. -/
def schoolCommentsSpec : ChangeSpec := { name := "schoolComments", fn := fun _ => fun
  | [d1, d2, d3] => { results := [.lit (.bool true)], args := [d1, d2, d3] }
  | _ => none }
def schoolCommentsRow : OpenClaim := { program := "ytidlmbajpbbilaa", sum := "b3d406bec1e98d7bdcb71222ed5829eb9f7db11cdf44da3087c85eb6e4d008bc", func := "astragal/astragallaw06.SchoolComments", spec := "schoolComments", unfollowed := true, recurses := true, plainKeys := false, apart := false }
def SchoolCommentsSaid : Prop := schoolCommentsRow.holds Try.pinned (OpenSpec.ofChange schoolCommentsSpec)

/-- ITS FALSE NEIGHBOUR: 'it returns false'. Refute it at one input. -/
def schoolCommentsWrong : ChangeSpec := { name := "schoolComments", fn := fun _ => fun
  | [d1, d2, d3] => { results := [.lit (.bool false)], args := [d1, d2, d3] }
  | _ => none }
def SchoolCommentsWrongFalsely : Prop := schoolCommentsRow.holds Try.pinned (OpenSpec.ofChange schoolCommentsWrong)

/-- 'astragallaw06.SchoolEnough': WHATEVER THE INPUT: true; the input reads as it did. -/
def schoolEnoughSpec : ChangeSpec := { name := "schoolEnough", fn := fun _ => fun
  | [d1, d2] => { results := [.lit (.bool true)], args := [d1, d2] }
  | _ => none }
def schoolEnoughRow : OpenClaim := { program := "ytidlmbajpbbilaa", sum := "b3d406bec1e98d7bdcb71222ed5829eb9f7db11cdf44da3087c85eb6e4d008bc", func := "astragal/astragallaw06.SchoolEnough", spec := "schoolEnough", unfollowed := true, recurses := true, plainKeys := false, apart := false }
def SchoolEnoughSaid : Prop := schoolEnoughRow.holds Try.pinned (OpenSpec.ofChange schoolEnoughSpec)

/-- ITS FALSE NEIGHBOUR: 'it returns false'. Refute it at one input. -/
def schoolEnoughWrong : ChangeSpec := { name := "schoolEnough", fn := fun _ => fun
  | [d1, d2] => { results := [.lit (.bool false)], args := [d1, d2] }
  | _ => none }
def SchoolEnoughWrongFalsely : Prop := schoolEnoughRow.holds Try.pinned (OpenSpec.ofChange schoolEnoughWrong)

/- THE SECOND FORM. 'bulk': how many values and letters a reading holds, each counted each time it is reached (what is shared counts as often as it is met; a slice's spare places count too). A statement '..UptoSaid' is the law's where the arguments, and the package variables that the reading takes, are together of bulk at most 1048576: NARROWER than '..Said'. Prove '..Said' where nothing that the law and all that it calls make is longer than what came in: it says more and counts as full. Else prove '..UptoSaid'. A law counts once. -/
mutual
def uptoBulk {H : Type} : DataW H → Nat
  | .lit (.string bytes) => bytes.length + 1
  | .lit _ => 1
  | .nil => 1
  | .ptr d => uptoBulk d + 1
  | .slice elems spare => uptoBulkAll elems + uptoBulkAll spare + 1
  | .agg parts => uptoBulkAll parts + 1
  | .iface _ d => uptoBulk d + 1
  | .map entries => uptoBulkEntries entries + 1
  | .held _ => 1
def uptoBulkAll {H : Type} : List (DataW H) → Nat
  | [] => 0
  | d :: r => uptoBulk d + uptoBulkAll r
def uptoBulkEntries {H : Type} : List (Lit × DataW H) → Nat
  | [] => 0
  | x :: r => uptoBulkEntry x + uptoBulkEntries r
def uptoBulkEntry {H : Type} : Lit × DataW H → Nat
  | (.string bytes, d) => bytes.length + uptoBulk d + 1
  | (_, d) => uptoBulk d + 1
 end
def uptoSmall : (H : Type) → List (DataW H) → Bool := fun _ ds => decide (uptoBulkAll ds ≤ 1048576)
def OpenSpec.upto (s : _root_.Go.ChangeSpec) : _root_.Go.OpenSpec := { _root_.Go.OpenSpec.ofChange s with cond := some uptoSmall }

/-- 'astragallaw06.SchoolCounts', WHERE WHAT IT READS IS OF BULK AT MOST 1048576: true; the input reads as it did. -/
def schoolCountsUptoRow : OpenClaim := { program := "ytidlmbajpbbilaa", sum := "b3d406bec1e98d7bdcb71222ed5829eb9f7db11cdf44da3087c85eb6e4d008bc", func := "astragal/astragallaw06.SchoolCounts", spec := "schoolCounts", unfollowed := true, recurses := true, plainKeys := false, apart := false, narrowed := true }
def SchoolCountsUptoSaid : Prop := schoolCountsUptoRow.holds Try.pinned (OpenSpec.upto schoolCountsSpec)

/-- 'astragallaw06.SchoolKeeps', WHERE WHAT IT READS IS OF BULK AT MOST 1048576: true; the input reads as it did. -/
def schoolKeepsUptoRow : OpenClaim := { program := "ytidlmbajpbbilaa", sum := "b3d406bec1e98d7bdcb71222ed5829eb9f7db11cdf44da3087c85eb6e4d008bc", func := "astragal/astragallaw06.SchoolKeeps", spec := "schoolKeeps", unfollowed := true, recurses := true, plainKeys := false, apart := false, narrowed := true }
def SchoolKeepsUptoSaid : Prop := schoolKeepsUptoRow.holds Try.pinned (OpenSpec.upto schoolKeepsSpec)

/-- 'astragallaw06.SchoolGlosses', WHERE WHAT IT READS IS OF BULK AT MOST 1048576: true; the input reads as it did. -/
def schoolGlossesUptoRow : OpenClaim := { program := "ytidlmbajpbbilaa", sum := "b3d406bec1e98d7bdcb71222ed5829eb9f7db11cdf44da3087c85eb6e4d008bc", func := "astragal/astragallaw06.SchoolGlosses", spec := "schoolGlosses", unfollowed := true, recurses := true, plainKeys := false, apart := false, narrowed := true }
def SchoolGlossesUptoSaid : Prop := schoolGlossesUptoRow.holds Try.pinned (OpenSpec.upto schoolGlossesSpec)

/-- 'astragallaw06.SchoolAdds', WHERE WHAT IT READS IS OF BULK AT MOST 1048576: true; the input reads as it did. -/
def schoolAddsUptoRow : OpenClaim := { program := "ytidlmbajpbbilaa", sum := "b3d406bec1e98d7bdcb71222ed5829eb9f7db11cdf44da3087c85eb6e4d008bc", func := "astragal/astragallaw06.SchoolAdds", spec := "schoolAdds", unfollowed := true, recurses := true, plainKeys := false, apart := false, narrowed := true }
def SchoolAddsUptoSaid : Prop := schoolAddsUptoRow.holds Try.pinned (OpenSpec.upto schoolAddsSpec)

/-- 'astragallaw06.SchoolTotal', WHERE WHAT IT READS IS OF BULK AT MOST 1048576: true; the input reads as it did. -/
def schoolTotalUptoRow : OpenClaim := { program := "ytidlmbajpbbilaa", sum := "b3d406bec1e98d7bdcb71222ed5829eb9f7db11cdf44da3087c85eb6e4d008bc", func := "astragal/astragallaw06.SchoolTotal", spec := "schoolTotal", unfollowed := true, recurses := true, plainKeys := false, apart := false, narrowed := true }
def SchoolTotalUptoSaid : Prop := schoolTotalUptoRow.holds Try.pinned (OpenSpec.upto schoolTotalSpec)

/-- 'astragallaw06.SchoolDiffers', WHERE WHAT IT READS IS OF BULK AT MOST 1048576: true; the input reads as it did. -/
def schoolDiffersUptoRow : OpenClaim := { program := "ytidlmbajpbbilaa", sum := "b3d406bec1e98d7bdcb71222ed5829eb9f7db11cdf44da3087c85eb6e4d008bc", func := "astragal/astragallaw06.SchoolDiffers", spec := "schoolDiffers", unfollowed := true, recurses := true, plainKeys := false, apart := false, narrowed := true }
def SchoolDiffersUptoSaid : Prop := schoolDiffersUptoRow.holds Try.pinned (OpenSpec.upto schoolDiffersSpec)

/-- 'astragallaw06.SchoolRanks', WHERE WHAT IT READS IS OF BULK AT MOST 1048576: true; the input reads as it did. -/
def schoolRanksUptoRow : OpenClaim := { program := "ytidlmbajpbbilaa", sum := "b3d406bec1e98d7bdcb71222ed5829eb9f7db11cdf44da3087c85eb6e4d008bc", func := "astragal/astragallaw06.SchoolRanks", spec := "schoolRanks", unfollowed := true, recurses := true, plainKeys := false, apart := false, narrowed := true }
def SchoolRanksUptoSaid : Prop := schoolRanksUptoRow.holds Try.pinned (OpenSpec.upto schoolRanksSpec)

/-- 'astragallaw06.SchoolReads', WHERE WHAT IT READS IS OF BULK AT MOST 1048576: true; the input reads as it did. -/
def schoolReadsUptoRow : OpenClaim := { program := "ytidlmbajpbbilaa", sum := "b3d406bec1e98d7bdcb71222ed5829eb9f7db11cdf44da3087c85eb6e4d008bc", func := "astragal/astragallaw06.SchoolReads", spec := "schoolReads", unfollowed := true, recurses := true, plainKeys := false, apart := false, narrowed := true }
def SchoolReadsUptoSaid : Prop := schoolReadsUptoRow.holds Try.pinned (OpenSpec.upto schoolReadsSpec)

/-- 'astragallaw06.SchoolIdles', WHERE WHAT IT READS IS OF BULK AT MOST 1048576: true; the input reads as it did. -/
def schoolIdlesUptoRow : OpenClaim := { program := "ytidlmbajpbbilaa", sum := "b3d406bec1e98d7bdcb71222ed5829eb9f7db11cdf44da3087c85eb6e4d008bc", func := "astragal/astragallaw06.SchoolIdles", spec := "schoolIdles", unfollowed := true, recurses := true, plainKeys := false, apart := false, narrowed := true }
def SchoolIdlesUptoSaid : Prop := schoolIdlesUptoRow.holds Try.pinned (OpenSpec.upto schoolIdlesSpec)

/-- 'astragallaw06.SchoolComments', WHERE WHAT IT READS IS OF BULK AT MOST 1048576: true; the input reads as it did. -/
def schoolCommentsUptoRow : OpenClaim := { program := "ytidlmbajpbbilaa", sum := "b3d406bec1e98d7bdcb71222ed5829eb9f7db11cdf44da3087c85eb6e4d008bc", func := "astragal/astragallaw06.SchoolComments", spec := "schoolComments", unfollowed := true, recurses := true, plainKeys := false, apart := false, narrowed := true }
def SchoolCommentsUptoSaid : Prop := schoolCommentsUptoRow.holds Try.pinned (OpenSpec.upto schoolCommentsSpec)

/-- 'astragallaw06.SchoolEnough', WHERE WHAT IT READS IS OF BULK AT MOST 1048576: true; the input reads as it did. -/
def schoolEnoughUptoRow : OpenClaim := { program := "ytidlmbajpbbilaa", sum := "b3d406bec1e98d7bdcb71222ed5829eb9f7db11cdf44da3087c85eb6e4d008bc", func := "astragal/astragallaw06.SchoolEnough", spec := "schoolEnough", unfollowed := true, recurses := true, plainKeys := false, apart := false, narrowed := true }
def SchoolEnoughUptoSaid : Prop := schoolEnoughUptoRow.holds Try.pinned (OpenSpec.upto schoolEnoughSpec)

end Rows
end Go.Proofs.Ytidlmbajpbbilaa

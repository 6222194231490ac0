/-
  No cell of these rows narrows 'for every input' (looked for: loops, veiled, ifaces, maps, wideKeys, modest, calm, conditions, laid).
  DERIVED. THE GIVEN ROWS OF THIS SEAT. 12 by the template 'for every input the law returns true; each argument reads behind the call as it read before'; 0 by the template 'total and deterministic' (their statements: YtfbnllmmoaialaaTotals.lean).
  GIVEN WITH THE SEED: the statements are not yours to turn. If you find one false, say at which input.
  Laid BY PROGRAM, IN A SANDBOX (cutbox-rows.mjs): the forced cells as the released guide's own fill.sh prints them over the translation 162a97bfb7040c1a… (all of the seat's roots in one cut). By AI agents, Wed Nov 11 2026. No macro, syntax, notation, axiom, sorry.
-/
import Derived.Test.YtfbnllmmoaialaaChecked
import GoSem.Claim
import GoSem.ClaimJoined
import GoSem.ClaimMapViews
import Derived.JoinedTies
import Derived.KernelRfl
namespace Go.Proofs.Ytfbnllmmoaialaa
/- THE CELL 'sum', in the pinned program and in every row, IS THE sha256 OF THE DUMP (.gsa) THAT YtfbnllmmoaialaaProg.lean LOADS. Nothing in Lean hashes anything: it is a label: what it is worth is what the hold of that sum in a sandbox is worth. -/
noncomputable def Try.pinned : Pinned := { name := "ytfbnllmmoaialaa", sum := "162a97bfb7040c1a9aecd281f0d74bc23fadea6f050af709b50aa3e67f5c58cb", checked := Try.checked }
namespace Rows
def none {H : Type} : Left H := { results := [], args := [] }

/-- 'astragallaw08.AlmanacPlans': WHATEVER THE INPUT: true; the input reads as it did. -/
def almanacPlansSpec : ChangeSpec := { name := "almanacPlans", fn := fun _ => fun
  | [d1, d2, d3] => { results := [.lit (.bool true)], args := [d1, d2, d3] }
  | _ => none }
def almanacPlansRow : OpenClaim := { program := "ytfbnllmmoaialaa", sum := "162a97bfb7040c1a9aecd281f0d74bc23fadea6f050af709b50aa3e67f5c58cb", func := "astragal/astragallaw08.AlmanacPlans", spec := "almanacPlans", unfollowed := true, recurses := true, apart := false }
def AlmanacPlansSaid : Prop := almanacPlansRow.holds Try.pinned (OpenSpec.ofChange almanacPlansSpec)

/-- ITS FALSE NEIGHBOUR: 'it returns false'. Refute it at one input. -/
def almanacPlansWrong : ChangeSpec := { name := "almanacPlans", fn := fun _ => fun
  | [d1, d2, d3] => { results := [.lit (.bool false)], args := [d1, d2, d3] }
  | _ => none }
def AlmanacPlansWrongFalsely : Prop := almanacPlansRow.holds Try.pinned (OpenSpec.ofChange almanacPlansWrong)

/-- 'astragallaw08.AlmanacCycles': WHATEVER THE INPUT: true; the input reads as it did. -/
def almanacCyclesSpec : ChangeSpec := { name := "almanacCycles", fn := fun _ => fun
  | [d1, d2, d3] => { results := [.lit (.bool true)], args := [d1, d2, d3] }
  | _ => none }
def almanacCyclesRow : OpenClaim := { program := "ytfbnllmmoaialaa", sum := "162a97bfb7040c1a9aecd281f0d74bc23fadea6f050af709b50aa3e67f5c58cb", func := "astragal/astragallaw08.AlmanacCycles", spec := "almanacCycles", unfollowed := true, recurses := true, apart := false }
def AlmanacCyclesSaid : Prop := almanacCyclesRow.holds Try.pinned (OpenSpec.ofChange almanacCyclesSpec)

/-- ITS FALSE NEIGHBOUR: 'it returns false'. Refute it at one input. -/
def almanacCyclesWrong : ChangeSpec := { name := "almanacCycles", fn := fun _ => fun
  | [d1, d2, d3] => { results := [.lit (.bool false)], args := [d1, d2, d3] }
  | _ => none }
def AlmanacCyclesWrongFalsely : Prop := almanacCyclesRow.holds Try.pinned (OpenSpec.ofChange almanacCyclesWrong)

/-- 'astragallaw08.AlmanacMeets': WHATEVER THE INPUT: true; the input reads as it did. -/
def almanacMeetsSpec : ChangeSpec := { name := "almanacMeets", fn := fun _ => fun
  | [d1, d2] => { results := [.lit (.bool true)], args := [d1, d2] }
  | _ => none }
def almanacMeetsRow : OpenClaim := { program := "ytfbnllmmoaialaa", sum := "162a97bfb7040c1a9aecd281f0d74bc23fadea6f050af709b50aa3e67f5c58cb", func := "astragal/astragallaw08.AlmanacMeets", spec := "almanacMeets", unfollowed := true, recurses := true, apart := false }
def AlmanacMeetsSaid : Prop := almanacMeetsRow.holds Try.pinned (OpenSpec.ofChange almanacMeetsSpec)

/-- ITS FALSE NEIGHBOUR: 'it returns false'. Refute it at one input. -/
def almanacMeetsWrong : ChangeSpec := { name := "almanacMeets", fn := fun _ => fun
  | [d1, d2] => { results := [.lit (.bool false)], args := [d1, d2] }
  | _ => none }
def AlmanacMeetsWrongFalsely : Prop := almanacMeetsRow.holds Try.pinned (OpenSpec.ofChange almanacMeetsWrong)

/-- 'astragallaw08.AlmanacAllows': WHATEVER THE INPUT: true; the input reads as it did. -/
def almanacAllowsSpec : ChangeSpec := { name := "almanacAllows", fn := fun _ => fun
  | [d1, d2, d3] => { results := [.lit (.bool true)], args := [d1, d2, d3] }
  | _ => none }
def almanacAllowsRow : OpenClaim := { program := "ytfbnllmmoaialaa", sum := "162a97bfb7040c1a9aecd281f0d74bc23fadea6f050af709b50aa3e67f5c58cb", func := "astragal/astragallaw08.AlmanacAllows", spec := "almanacAllows", unfollowed := true, recurses := true, apart := false }
def AlmanacAllowsSaid : Prop := almanacAllowsRow.holds Try.pinned (OpenSpec.ofChange almanacAllowsSpec)

/-- ITS FALSE NEIGHBOUR: 'it returns false'. Refute it at one input. -/
def almanacAllowsWrong : ChangeSpec := { name := "almanacAllows", fn := fun _ => fun
  | [d1, d2, d3] => { results := [.lit (.bool false)], args := [d1, d2, d3] }
  | _ => none }
def AlmanacAllowsWrongFalsely : Prop := almanacAllowsRow.holds Try.pinned (OpenSpec.ofChange almanacAllowsWrong)

/-- 'astragallaw08.AlmanacSuns': WHATEVER THE INPUT: true; the input reads as it did. -/
def almanacSunsSpec : ChangeSpec := { name := "almanacSuns", fn := fun _ => fun
  | [d1, d2, d3] => { results := [.lit (.bool true)], args := [d1, d2, d3] }
  | _ => none }
def almanacSunsRow : OpenClaim := { program := "ytfbnllmmoaialaa", sum := "162a97bfb7040c1a9aecd281f0d74bc23fadea6f050af709b50aa3e67f5c58cb", func := "astragal/astragallaw08.AlmanacSuns", spec := "almanacSuns", unfollowed := true, recurses := true, apart := false }
def AlmanacSunsSaid : Prop := almanacSunsRow.holds Try.pinned (OpenSpec.ofChange almanacSunsSpec)

/-- ITS FALSE NEIGHBOUR: 'it returns false'. Refute it at one input. -/
def almanacSunsWrong : ChangeSpec := { name := "almanacSuns", fn := fun _ => fun
  | [d1, d2, d3] => { results := [.lit (.bool false)], args := [d1, d2, d3] }
  | _ => none }
def AlmanacSunsWrongFalsely : Prop := almanacSunsRow.holds Try.pinned (OpenSpec.ofChange almanacSunsWrong)

/-- 'astragallaw08.AlmanacMoons': WHATEVER THE INPUT: true; the input reads as it did. -/
def almanacMoonsSpec : ChangeSpec := { name := "almanacMoons", fn := fun _ => fun
  | [d1, d2, d3] => { results := [.lit (.bool true)], args := [d1, d2, d3] }
  | _ => none }
def almanacMoonsRow : OpenClaim := { program := "ytfbnllmmoaialaa", sum := "162a97bfb7040c1a9aecd281f0d74bc23fadea6f050af709b50aa3e67f5c58cb", func := "astragal/astragallaw08.AlmanacMoons", spec := "almanacMoons", unfollowed := true, recurses := true, apart := false }
def AlmanacMoonsSaid : Prop := almanacMoonsRow.holds Try.pinned (OpenSpec.ofChange almanacMoonsSpec)

/-- ITS FALSE NEIGHBOUR: 'it returns false'. Refute it at one input. -/
def almanacMoonsWrong : ChangeSpec := { name := "almanacMoons", fn := fun _ => fun
  | [d1, d2, d3] => { results := [.lit (.bool false)], args := [d1, d2, d3] }
  | _ => none }
def AlmanacMoonsWrongFalsely : Prop := almanacMoonsRow.holds Try.pinned (OpenSpec.ofChange almanacMoonsWrong)

/-- 'astragallaw08.AlmanacSuits': WHATEVER THE INPUT: true; the input reads as it did. -/
def almanacSuitsSpec : ChangeSpec := { name := "almanacSuits", fn := fun _ => fun
  | [d1, d2, d3] => { results := [.lit (.bool true)], args := [d1, d2, d3] }
  | _ => none }
def almanacSuitsRow : OpenClaim := { program := "ytfbnllmmoaialaa", sum := "162a97bfb7040c1a9aecd281f0d74bc23fadea6f050af709b50aa3e67f5c58cb", func := "astragal/astragallaw08.AlmanacSuits", spec := "almanacSuits", unfollowed := true, recurses := true, apart := false }
def AlmanacSuitsSaid : Prop := almanacSuitsRow.holds Try.pinned (OpenSpec.ofChange almanacSuitsSpec)

/-- ITS FALSE NEIGHBOUR: 'it returns false'. Refute it at one input. -/
def almanacSuitsWrong : ChangeSpec := { name := "almanacSuits", fn := fun _ => fun
  | [d1, d2, d3] => { results := [.lit (.bool false)], args := [d1, d2, d3] }
  | _ => none }
def AlmanacSuitsWrongFalsely : Prop := almanacSuitsRow.holds Try.pinned (OpenSpec.ofChange almanacSuitsWrong)

/-- 'astragallaw08.AlmanacNext': WHATEVER THE INPUT: true; the input reads as it did. -/
def almanacNextSpec : ChangeSpec := { name := "almanacNext", fn := fun _ => fun
  | [d1, d2, d3] => { results := [.lit (.bool true)], args := [d1, d2, d3] }
  | _ => none }
def almanacNextRow : OpenClaim := { program := "ytfbnllmmoaialaa", sum := "162a97bfb7040c1a9aecd281f0d74bc23fadea6f050af709b50aa3e67f5c58cb", func := "astragal/astragallaw08.AlmanacNext", spec := "almanacNext", unfollowed := true, recurses := true, apart := false }
def AlmanacNextSaid : Prop := almanacNextRow.holds Try.pinned (OpenSpec.ofChange almanacNextSpec)

/-- ITS FALSE NEIGHBOUR: 'it returns false'. Refute it at one input. -/
def almanacNextWrong : ChangeSpec := { name := "almanacNext", fn := fun _ => fun
  | [d1, d2, d3] => { results := [.lit (.bool false)], args := [d1, d2, d3] }
  | _ => none }
def AlmanacNextWrongFalsely : Prop := almanacNextRow.holds Try.pinned (OpenSpec.ofChange almanacNextWrong)

/-- 'astragallaw08.AlmanacTurns': WHATEVER THE INPUT: true; the input reads as it did. -/
def almanacTurnsSpec : ChangeSpec := { name := "almanacTurns", fn := fun _ => fun
  | [d1, d2, d3] => { results := [.lit (.bool true)], args := [d1, d2, d3] }
  | _ => none }
def almanacTurnsRow : OpenClaim := { program := "ytfbnllmmoaialaa", sum := "162a97bfb7040c1a9aecd281f0d74bc23fadea6f050af709b50aa3e67f5c58cb", func := "astragal/astragallaw08.AlmanacTurns", spec := "almanacTurns", unfollowed := true, recurses := true, apart := false }
def AlmanacTurnsSaid : Prop := almanacTurnsRow.holds Try.pinned (OpenSpec.ofChange almanacTurnsSpec)

/-- ITS FALSE NEIGHBOUR: 'it returns false'. Refute it at one input. -/
def almanacTurnsWrong : ChangeSpec := { name := "almanacTurns", fn := fun _ => fun
  | [d1, d2, d3] => { results := [.lit (.bool false)], args := [d1, d2, d3] }
  | _ => none }
def AlmanacTurnsWrongFalsely : Prop := almanacTurnsRow.holds Try.pinned (OpenSpec.ofChange almanacTurnsWrong)

/-- 'astragallaw08.AlmanacGuests': WHATEVER THE INPUT: true; the input reads as it did. -/
def almanacGuestsSpec : ChangeSpec := { name := "almanacGuests", fn := fun _ => fun
  | [d1, d2, d3] => { results := [.lit (.bool true)], args := [d1, d2, d3] }
  | _ => none }
def almanacGuestsRow : OpenClaim := { program := "ytfbnllmmoaialaa", sum := "162a97bfb7040c1a9aecd281f0d74bc23fadea6f050af709b50aa3e67f5c58cb", func := "astragal/astragallaw08.AlmanacGuests", spec := "almanacGuests", unfollowed := true, recurses := true, apart := false }
def AlmanacGuestsSaid : Prop := almanacGuestsRow.holds Try.pinned (OpenSpec.ofChange almanacGuestsSpec)

/-- ITS FALSE NEIGHBOUR: 'it returns false'. Refute it at one input. -/
def almanacGuestsWrong : ChangeSpec := { name := "almanacGuests", fn := fun _ => fun
  | [d1, d2, d3] => { results := [.lit (.bool false)], args := [d1, d2, d3] }
  | _ => none }
def AlmanacGuestsWrongFalsely : Prop := almanacGuestsRow.holds Try.pinned (OpenSpec.ofChange almanacGuestsWrong)

/-- 'astragallaw08.AlmanacBack': WHATEVER THE INPUT: true; the input reads as it did. -/
def almanacBackSpec : ChangeSpec := { name := "almanacBack", fn := fun _ => fun
  | [d1, d2, d3] => { results := [.lit (.bool true)], args := [d1, d2, d3] }
  | _ => none }
def almanacBackRow : OpenClaim := { program := "ytfbnllmmoaialaa", sum := "162a97bfb7040c1a9aecd281f0d74bc23fadea6f050af709b50aa3e67f5c58cb", func := "astragal/astragallaw08.AlmanacBack", spec := "almanacBack", unfollowed := true, recurses := true, apart := false }
def AlmanacBackSaid : Prop := almanacBackRow.holds Try.pinned (OpenSpec.ofChange almanacBackSpec)

/-- ITS FALSE NEIGHBOUR: 'it returns false'. Refute it at one input. -/
def almanacBackWrong : ChangeSpec := { name := "almanacBack", fn := fun _ => fun
  | [d1, d2, d3] => { results := [.lit (.bool false)], args := [d1, d2, d3] }
  | _ => none }
def AlmanacBackWrongFalsely : Prop := almanacBackRow.holds Try.pinned (OpenSpec.ofChange almanacBackWrong)

/-- 'astragallaw08.AlmanacYears': WHATEVER THE INPUT: true; the input reads as it did. -/
def almanacYearsSpec : ChangeSpec := { name := "almanacYears", fn := fun _ => fun
  | [d1, d2, d3] => { results := [.lit (.bool true)], args := [d1, d2, d3] }
  | _ => none }
def almanacYearsRow : OpenClaim := { program := "ytfbnllmmoaialaa", sum := "162a97bfb7040c1a9aecd281f0d74bc23fadea6f050af709b50aa3e67f5c58cb", func := "astragal/astragallaw08.AlmanacYears", spec := "almanacYears", unfollowed := true, recurses := true, apart := false }
def AlmanacYearsSaid : Prop := almanacYearsRow.holds Try.pinned (OpenSpec.ofChange almanacYearsSpec)

/-- ITS FALSE NEIGHBOUR: 'it returns false'. Refute it at one input. -/
def almanacYearsWrong : ChangeSpec := { name := "almanacYears", fn := fun _ => fun
  | [d1, d2, d3] => { results := [.lit (.bool false)], args := [d1, d2, d3] }
  | _ => none }
def AlmanacYearsWrongFalsely : Prop := almanacYearsRow.holds Try.pinned (OpenSpec.ofChange almanacYearsWrong)

/- THE SECOND FORM. 'bulk': how many values and letters a reading holds, each counted each time it is reached (what is shared counts as often as it is met; a slice's spare places count too). A statement '..UptoSaid' is the law's where the arguments, and the package variables that the reading takes, are together of bulk at most 1048576: NARROWER than '..Said'. Prove '..Said' where nothing that the law and all that it calls make is longer than what came in: it says more and counts as full. Else prove '..UptoSaid'. A law counts once. -/
mutual
def uptoBulk {H : Type} : DataW H → Nat
  | .lit (.string bytes) => bytes.length + 1
  | .lit _ => 1
  | .nil => 1
  | .ptr d => uptoBulk d + 1
  | .slice elems spare => uptoBulkAll elems + uptoBulkAll spare + 1
  | .agg parts => uptoBulkAll parts + 1
  | .iface _ d => uptoBulk d + 1
  | .map entries => uptoBulkEntries entries + 1
  | .held _ => 1
def uptoBulkAll {H : Type} : List (DataW H) → Nat
  | [] => 0
  | d :: r => uptoBulk d + uptoBulkAll r
def uptoBulkEntries {H : Type} : List (Lit × DataW H) → Nat
  | [] => 0
  | x :: r => uptoBulkEntry x + uptoBulkEntries r
def uptoBulkEntry {H : Type} : Lit × DataW H → Nat
  | (.string bytes, d) => bytes.length + uptoBulk d + 1
  | (_, d) => uptoBulk d + 1
 end
def uptoSmall : (H : Type) → List (DataW H) → Bool := fun _ ds => decide (uptoBulkAll ds ≤ 1048576)
def OpenSpec.upto (s : _root_.Go.ChangeSpec) : _root_.Go.OpenSpec := { _root_.Go.OpenSpec.ofChange s with cond := some uptoSmall }

/-- 'astragallaw08.AlmanacPlans', WHERE WHAT IT READS IS OF BULK AT MOST 1048576: true; the input reads as it did. -/
def almanacPlansUptoRow : OpenClaim := { program := "ytfbnllmmoaialaa", sum := "162a97bfb7040c1a9aecd281f0d74bc23fadea6f050af709b50aa3e67f5c58cb", func := "astragal/astragallaw08.AlmanacPlans", spec := "almanacPlans", unfollowed := true, recurses := true, apart := false, narrowed := true }
def AlmanacPlansUptoSaid : Prop := almanacPlansUptoRow.holds Try.pinned (OpenSpec.upto almanacPlansSpec)

/-- 'astragallaw08.AlmanacCycles', WHERE WHAT IT READS IS OF BULK AT MOST 1048576: true; the input reads as it did. -/
def almanacCyclesUptoRow : OpenClaim := { program := "ytfbnllmmoaialaa", sum := "162a97bfb7040c1a9aecd281f0d74bc23fadea6f050af709b50aa3e67f5c58cb", func := "astragal/astragallaw08.AlmanacCycles", spec := "almanacCycles", unfollowed := true, recurses := true, apart := false, narrowed := true }
def AlmanacCyclesUptoSaid : Prop := almanacCyclesUptoRow.holds Try.pinned (OpenSpec.upto almanacCyclesSpec)

/-- 'astragallaw08.AlmanacMeets', WHERE WHAT IT READS IS OF BULK AT MOST 1048576: true; the input reads as it did. -/
def almanacMeetsUptoRow : OpenClaim := { program := "ytfbnllmmoaialaa", sum := "162a97bfb7040c1a9aecd281f0d74bc23fadea6f050af709b50aa3e67f5c58cb", func := "astragal/astragallaw08.AlmanacMeets", spec := "almanacMeets", unfollowed := true, recurses := true, apart := false, narrowed := true }
def AlmanacMeetsUptoSaid : Prop := almanacMeetsUptoRow.holds Try.pinned (OpenSpec.upto almanacMeetsSpec)

/-- 'astragallaw08.AlmanacAllows', WHERE WHAT IT READS IS OF BULK AT MOST 1048576: true; the input reads as it did. -/
def almanacAllowsUptoRow : OpenClaim := { program := "ytfbnllmmoaialaa", sum := "162a97bfb7040c1a9aecd281f0d74bc23fadea6f050af709b50aa3e67f5c58cb", func := "astragal/astragallaw08.AlmanacAllows", spec := "almanacAllows", unfollowed := true, recurses := true, apart := false, narrowed := true }
def AlmanacAllowsUptoSaid : Prop := almanacAllowsUptoRow.holds Try.pinned (OpenSpec.upto almanacAllowsSpec)

/-- 'astragallaw08.AlmanacSuns', WHERE WHAT IT READS IS OF BULK AT MOST 1048576: true; the input reads as it did. -/
def almanacSunsUptoRow : OpenClaim := { program := "ytfbnllmmoaialaa", sum := "162a97bfb7040c1a9aecd281f0d74bc23fadea6f050af709b50aa3e67f5c58cb", func := "astragal/astragallaw08.AlmanacSuns", spec := "almanacSuns", unfollowed := true, recurses := true, apart := false, narrowed := true }
def AlmanacSunsUptoSaid : Prop := almanacSunsUptoRow.holds Try.pinned (OpenSpec.upto almanacSunsSpec)

/-- 'astragallaw08.AlmanacMoons', WHERE WHAT IT READS IS OF BULK AT MOST 1048576: true; the input reads as it did. -/
def almanacMoonsUptoRow : OpenClaim := { program := "ytfbnllmmoaialaa", sum := "162a97bfb7040c1a9aecd281f0d74bc23fadea6f050af709b50aa3e67f5c58cb", func := "astragal/astragallaw08.AlmanacMoons", spec := "almanacMoons", unfollowed := true, recurses := true, apart := false, narrowed := true }
def AlmanacMoonsUptoSaid : Prop := almanacMoonsUptoRow.holds Try.pinned (OpenSpec.upto almanacMoonsSpec)

/-- 'astragallaw08.AlmanacSuits', WHERE WHAT IT READS IS OF BULK AT MOST 1048576: true; the input reads as it did. -/
def almanacSuitsUptoRow : OpenClaim := { program := "ytfbnllmmoaialaa", sum := "162a97bfb7040c1a9aecd281f0d74bc23fadea6f050af709b50aa3e67f5c58cb", func := "astragal/astragallaw08.AlmanacSuits", spec := "almanacSuits", unfollowed := true, recurses := true, apart := false, narrowed := true }
def AlmanacSuitsUptoSaid : Prop := almanacSuitsUptoRow.holds Try.pinned (OpenSpec.upto almanacSuitsSpec)

/-- 'astragallaw08.AlmanacNext', WHERE WHAT IT READS IS OF BULK AT MOST 1048576: true; the input reads as it did. -/
def almanacNextUptoRow : OpenClaim := { program := "ytfbnllmmoaialaa", sum := "162a97bfb7040c1a9aecd281f0d74bc23fadea6f050af709b50aa3e67f5c58cb", func := "astragal/astragallaw08.AlmanacNext", spec := "almanacNext", unfollowed := true, recurses := true, apart := false, narrowed := true }
def AlmanacNextUptoSaid : Prop := almanacNextUptoRow.holds Try.pinned (OpenSpec.upto almanacNextSpec)

/-- 'astragallaw08.AlmanacTurns', WHERE WHAT IT READS IS OF BULK AT MOST 1048576: true; the input reads as it did. -/
def almanacTurnsUptoRow : OpenClaim := { program := "ytfbnllmmoaialaa", sum := "162a97bfb7040c1a9aecd281f0d74bc23fadea6f050af709b50aa3e67f5c58cb", func := "astragal/astragallaw08.AlmanacTurns", spec := "almanacTurns", unfollowed := true, recurses := true, apart := false, narrowed := true }
def AlmanacTurnsUptoSaid : Prop := almanacTurnsUptoRow.holds Try.pinned (OpenSpec.upto almanacTurnsSpec)

/-- 'astragallaw08.AlmanacGuests', WHERE WHAT IT READS IS OF BULK AT MOST 1048576: true; the input reads as it did. -/
def almanacGuestsUptoRow : OpenClaim := { program := "ytfbnllmmoaialaa", sum := "162a97bfb7040c1a9aecd281f0d74bc23fadea6f050af709b50aa3e67f5c58cb", func := "astragal/astragallaw08.AlmanacGuests", spec := "almanacGuests", unfollowed := true, recurses := true, apart := false, narrowed := true }
def AlmanacGuestsUptoSaid : Prop := almanacGuestsUptoRow.holds Try.pinned (OpenSpec.upto almanacGuestsSpec)

/-- 'astragallaw08.AlmanacBack', WHERE WHAT IT READS IS OF BULK AT MOST 1048576: true; the input reads as it did. -/
def almanacBackUptoRow : OpenClaim := { program := "ytfbnllmmoaialaa", sum := "162a97bfb7040c1a9aecd281f0d74bc23fadea6f050af709b50aa3e67f5c58cb", func := "astragal/astragallaw08.AlmanacBack", spec := "almanacBack", unfollowed := true, recurses := true, apart := false, narrowed := true }
def AlmanacBackUptoSaid : Prop := almanacBackUptoRow.holds Try.pinned (OpenSpec.upto almanacBackSpec)

/-- 'astragallaw08.AlmanacYears', WHERE WHAT IT READS IS OF BULK AT MOST 1048576: true; the input reads as it did. -/
def almanacYearsUptoRow : OpenClaim := { program := "ytfbnllmmoaialaa", sum := "162a97bfb7040c1a9aecd281f0d74bc23fadea6f050af709b50aa3e67f5c58cb", func := "astragal/astragallaw08.AlmanacYears", spec := "almanacYears", unfollowed := true, recurses := true, apart := false, narrowed := true }
def AlmanacYearsUptoSaid : Prop := almanacYearsUptoRow.holds Try.pinned (OpenSpec.upto almanacYearsSpec)

end Rows
end Go.Proofs.Ytfbnllmmoaialaa

/-
  No cell of these rows narrows 'for every input' (looked for: loops, veiled, ifaces, maps, wideKeys, modest, calm, conditions, laid).
  DERIVED. THE GIVEN ROWS OF THIS SEAT. 10 by the template 'for every input the law returns true; each argument reads behind the call as it read before'; 0 by the template 'total and deterministic' (their statements: YtfhlllmicobafaaTotals.lean).
  GIVEN WITH THE SEED: the statements are not yours to turn. If you find one false, say at which input.
  Laid BY PROGRAM, IN A SANDBOX (cutbox-rows.mjs): the forced cells as the released guide's own fill.sh prints them over the translation 348260bcc5295a76… (all of the seat's roots in one cut). By AI agents, Wed Nov 11 2026. No macro, syntax, notation, axiom, sorry.
-/
import Derived.Test.YtfhlllmicobafaaChecked
import GoSem.Claim
import GoSem.ClaimJoined
import GoSem.ClaimMapViews
import Derived.JoinedTies
import Derived.KernelRfl
namespace Go.Proofs.Ytfhlllmicobafaa
/- THE CELL 'sum', in the pinned program and in every row, IS THE sha256 OF THE DUMP (.gsa) THAT YtfhlllmicobafaaProg.lean LOADS. Nothing in Lean hashes anything: it is a label: what it is worth is what the hold of that sum in a sandbox is worth. -/
noncomputable def Try.pinned : Pinned := { name := "ytfhlllmicobafaa", sum := "348260bcc5295a7616bdc5c0468f72fb24066e7bbe281945007a97611b8017b9", checked := Try.checked }
namespace Rows
def none {H : Type} : Left H := { results := [], args := [] }

/-- 'wakemanlaw37.TraceRuns': WHATEVER THE INPUT: true; the input reads as it did. -/
def traceRunsSpec : ChangeSpec := { name := "traceRuns", fn := fun _ => fun
  | [d1, d2, d3] => { results := [.lit (.bool true)], args := [d1, d2, d3] }
  | _ => none }
def traceRunsRow : OpenClaim := { program := "ytfhlllmicobafaa", sum := "348260bcc5295a7616bdc5c0468f72fb24066e7bbe281945007a97611b8017b9", func := "wakeman/wakemanlaw37.TraceRuns", spec := "traceRuns", unfollowed := true, recurses := true, apart := false }
def TraceRunsSaid : Prop := traceRunsRow.holds Try.pinned (OpenSpec.ofChange traceRunsSpec)

/-- ITS FALSE NEIGHBOUR: 'it returns false'. Refute it at one input. -/
def traceRunsWrong : ChangeSpec := { name := "traceRuns", fn := fun _ => fun
  | [d1, d2, d3] => { results := [.lit (.bool false)], args := [d1, d2, d3] }
  | _ => none }
def TraceRunsWrongFalsely : Prop := traceRunsRow.holds Try.pinned (OpenSpec.ofChange traceRunsWrong)

/-- 'wakemanlaw37.TraceChecks': WHATEVER THE INPUT: true; the input reads as it did. -/
def traceChecksSpec : ChangeSpec := { name := "traceChecks", fn := fun _ => fun
  | [d1, d2] => { results := [.lit (.bool true)], args := [d1, d2] }
  | _ => none }
def traceChecksRow : OpenClaim := { program := "ytfhlllmicobafaa", sum := "348260bcc5295a7616bdc5c0468f72fb24066e7bbe281945007a97611b8017b9", func := "wakeman/wakemanlaw37.TraceChecks", spec := "traceChecks", unfollowed := true, recurses := true, apart := false }
def TraceChecksSaid : Prop := traceChecksRow.holds Try.pinned (OpenSpec.ofChange traceChecksSpec)

/-- ITS FALSE NEIGHBOUR: 'it returns false'. Refute it at one input. -/
def traceChecksWrong : ChangeSpec := { name := "traceChecks", fn := fun _ => fun
  | [d1, d2] => { results := [.lit (.bool false)], args := [d1, d2] }
  | _ => none }
def TraceChecksWrongFalsely : Prop := traceChecksRow.holds Try.pinned (OpenSpec.ofChange traceChecksWrong)

/-- 'wakemanlaw37.TraceTimes': WHATEVER THE INPUT: true; the input reads as it did. -/
def traceTimesSpec : ChangeSpec := { name := "traceTimes", fn := fun _ => fun
  | [d1, d2] => { results := [.lit (.bool true)], args := [d1, d2] }
  | _ => none }
def traceTimesRow : OpenClaim := { program := "ytfhlllmicobafaa", sum := "348260bcc5295a7616bdc5c0468f72fb24066e7bbe281945007a97611b8017b9", func := "wakeman/wakemanlaw37.TraceTimes", spec := "traceTimes", unfollowed := true, recurses := true, apart := false }
def TraceTimesSaid : Prop := traceTimesRow.holds Try.pinned (OpenSpec.ofChange traceTimesSpec)

/-- ITS FALSE NEIGHBOUR: 'it returns false'. Refute it at one input. -/
def traceTimesWrong : ChangeSpec := { name := "traceTimes", fn := fun _ => fun
  | [d1, d2] => { results := [.lit (.bool false)], args := [d1, d2] }
  | _ => none }
def TraceTimesWrongFalsely : Prop := traceTimesRow.holds Try.pinned (OpenSpec.ofChange traceTimesWrong)

/-- 'wakemanlaw37.TraceBegins': WHATEVER THE INPUT: true; the input reads as it did. -/
def traceBeginsSpec : ChangeSpec := { name := "traceBegins", fn := fun _ => fun
  | [d1, d2, d3] => { results := [.lit (.bool true)], args := [d1, d2, d3] }
  | _ => none }
def traceBeginsRow : OpenClaim := { program := "ytfhlllmicobafaa", sum := "348260bcc5295a7616bdc5c0468f72fb24066e7bbe281945007a97611b8017b9", func := "wakeman/wakemanlaw37.TraceBegins", spec := "traceBegins", unfollowed := true, recurses := true, apart := false }
def TraceBeginsSaid : Prop := traceBeginsRow.holds Try.pinned (OpenSpec.ofChange traceBeginsSpec)

/-- ITS FALSE NEIGHBOUR: 'it returns false'. Refute it at one input. -/
def traceBeginsWrong : ChangeSpec := { name := "traceBegins", fn := fun _ => fun
  | [d1, d2, d3] => { results := [.lit (.bool false)], args := [d1, d2, d3] }
  | _ => none }
def TraceBeginsWrongFalsely : Prop := traceBeginsRow.holds Try.pinned (OpenSpec.ofChange traceBeginsWrong)

/-- 'wakemanlaw37.TraceParts': WHATEVER THE INPUT: true; the input reads as it did. -/
def tracePartsSpec : ChangeSpec := { name := "traceParts", fn := fun _ => fun
  | [d1, d2] => { results := [.lit (.bool true)], args := [d1, d2] }
  | _ => none }
def tracePartsRow : OpenClaim := { program := "ytfhlllmicobafaa", sum := "348260bcc5295a7616bdc5c0468f72fb24066e7bbe281945007a97611b8017b9", func := "wakeman/wakemanlaw37.TraceParts", spec := "traceParts", unfollowed := true, recurses := true, apart := false }
def TracePartsSaid : Prop := tracePartsRow.holds Try.pinned (OpenSpec.ofChange tracePartsSpec)

/-- ITS FALSE NEIGHBOUR: 'it returns false'. Refute it at one input. -/
def tracePartsWrong : ChangeSpec := { name := "traceParts", fn := fun _ => fun
  | [d1, d2] => { results := [.lit (.bool false)], args := [d1, d2] }
  | _ => none }
def TracePartsWrongFalsely : Prop := tracePartsRow.holds Try.pinned (OpenSpec.ofChange tracePartsWrong)

/-- 'wakemanlaw37.TraceLaunches': WHATEVER THE INPUT: true; the input reads as it did. -/
def traceLaunchesSpec : ChangeSpec := { name := "traceLaunches", fn := fun _ => fun
  | [d] => { results := [.lit (.bool true)], args := [d] }
  | _ => none }
def traceLaunchesRow : OpenClaim := { program := "ytfhlllmicobafaa", sum := "348260bcc5295a7616bdc5c0468f72fb24066e7bbe281945007a97611b8017b9", func := "wakeman/wakemanlaw37.TraceLaunches", spec := "traceLaunches", unfollowed := true, recurses := true, apart := false }
def TraceLaunchesSaid : Prop := traceLaunchesRow.holds Try.pinned (OpenSpec.ofChange traceLaunchesSpec)

/-- ITS FALSE NEIGHBOUR: 'it returns false'. Refute it at one input. -/
def traceLaunchesWrong : ChangeSpec := { name := "traceLaunches", fn := fun _ => fun
  | [d] => { results := [.lit (.bool false)], args := [d] }
  | _ => none }
def TraceLaunchesWrongFalsely : Prop := traceLaunchesRow.holds Try.pinned (OpenSpec.ofChange traceLaunchesWrong)

/-- 'wakemanlaw37.TraceOutcomes': WHATEVER THE INPUT: true; the input reads as it did. -/
def traceOutcomesSpec : ChangeSpec := { name := "traceOutcomes", fn := fun _ => fun
  | [d1, d2, d3] => { results := [.lit (.bool true)], args := [d1, d2, d3] }
  | _ => none }
def traceOutcomesRow : OpenClaim := { program := "ytfhlllmicobafaa", sum := "348260bcc5295a7616bdc5c0468f72fb24066e7bbe281945007a97611b8017b9", func := "wakeman/wakemanlaw37.TraceOutcomes", spec := "traceOutcomes", unfollowed := true, recurses := true, apart := false }
def TraceOutcomesSaid : Prop := traceOutcomesRow.holds Try.pinned (OpenSpec.ofChange traceOutcomesSpec)

/-- ITS FALSE NEIGHBOUR: 'it returns false'. Refute it at one input. -/
def traceOutcomesWrong : ChangeSpec := { name := "traceOutcomes", fn := fun _ => fun
  | [d1, d2, d3] => { results := [.lit (.bool false)], args := [d1, d2, d3] }
  | _ => none }
def TraceOutcomesWrongFalsely : Prop := traceOutcomesRow.holds Try.pinned (OpenSpec.ofChange traceOutcomesWrong)

/-- 'wakemanlaw37.TraceUnder': WHATEVER THE INPUT: true; the input reads as it did. -/
def traceUnderSpec : ChangeSpec := { name := "traceUnder", fn := fun _ => fun
  | [d] => { results := [.lit (.bool true)], args := [d] }
  | _ => none }
def traceUnderRow : OpenClaim := { program := "ytfhlllmicobafaa", sum := "348260bcc5295a7616bdc5c0468f72fb24066e7bbe281945007a97611b8017b9", func := "wakeman/wakemanlaw37.TraceUnder", spec := "traceUnder", unfollowed := true, recurses := true, apart := false }
def TraceUnderSaid : Prop := traceUnderRow.holds Try.pinned (OpenSpec.ofChange traceUnderSpec)

/-- ITS FALSE NEIGHBOUR: 'it returns false'. Refute it at one input. -/
def traceUnderWrong : ChangeSpec := { name := "traceUnder", fn := fun _ => fun
  | [d] => { results := [.lit (.bool false)], args := [d] }
  | _ => none }
def TraceUnderWrongFalsely : Prop := traceUnderRow.holds Try.pinned (OpenSpec.ofChange traceUnderWrong)

/-- 'wakemanlaw37.TraceTallies': WHATEVER THE INPUT: true; the input reads as it did. -/
def traceTalliesSpec : ChangeSpec := { name := "traceTallies", fn := fun _ => fun
  | [d1, d2] => { results := [.lit (.bool true)], args := [d1, d2] }
  | _ => none }
def traceTalliesRow : OpenClaim := { program := "ytfhlllmicobafaa", sum := "348260bcc5295a7616bdc5c0468f72fb24066e7bbe281945007a97611b8017b9", func := "wakeman/wakemanlaw37.TraceTallies", spec := "traceTallies", unfollowed := true, recurses := true, apart := false }
def TraceTalliesSaid : Prop := traceTalliesRow.holds Try.pinned (OpenSpec.ofChange traceTalliesSpec)

/-- ITS FALSE NEIGHBOUR: 'it returns false'. Refute it at one input. -/
def traceTalliesWrong : ChangeSpec := { name := "traceTallies", fn := fun _ => fun
  | [d1, d2] => { results := [.lit (.bool false)], args := [d1, d2] }
  | _ => none }
def TraceTalliesWrongFalsely : Prop := traceTalliesRow.holds Try.pinned (OpenSpec.ofChange traceTalliesWrong)

/-- 'wakemanlaw37.TraceEnds': WHATEVER THE INPUT: true; the input reads as it did. -/
def traceEndsSpec : ChangeSpec := { name := "traceEnds", fn := fun _ => fun
  | [d1, d2] => { results := [.lit (.bool true)], args := [d1, d2] }
  | _ => none }
def traceEndsRow : OpenClaim := { program := "ytfhlllmicobafaa", sum := "348260bcc5295a7616bdc5c0468f72fb24066e7bbe281945007a97611b8017b9", func := "wakeman/wakemanlaw37.TraceEnds", spec := "traceEnds", unfollowed := true, recurses := true, apart := false }
def TraceEndsSaid : Prop := traceEndsRow.holds Try.pinned (OpenSpec.ofChange traceEndsSpec)

/-- ITS FALSE NEIGHBOUR: 'it returns false'. Refute it at one input. -/
def traceEndsWrong : ChangeSpec := { name := "traceEnds", fn := fun _ => fun
  | [d1, d2] => { results := [.lit (.bool false)], args := [d1, d2] }
  | _ => none }
def TraceEndsWrongFalsely : Prop := traceEndsRow.holds Try.pinned (OpenSpec.ofChange traceEndsWrong)

/- THE SECOND FORM. 'bulk': how many values and letters a reading holds, each counted each time it is reached (what is shared counts as often as it is met; a slice's spare places count too). A statement '..UptoSaid' is the law's where the arguments, and the package variables that the reading takes, are together of bulk at most 1048576: NARROWER than '..Said'. Prove '..Said' where nothing that the law and all that it calls make is longer than what came in: it says more and counts as full. Else prove '..UptoSaid'. A law counts once. -/
mutual
def uptoBulk {H : Type} : DataW H → Nat
  | .lit (.string bytes) => bytes.length + 1
  | .lit _ => 1
  | .nil => 1
  | .ptr d => uptoBulk d + 1
  | .slice elems spare => uptoBulkAll elems + uptoBulkAll spare + 1
  | .agg parts => uptoBulkAll parts + 1
  | .iface _ d => uptoBulk d + 1
  | .map entries => uptoBulkEntries entries + 1
  | .held _ => 1
def uptoBulkAll {H : Type} : List (DataW H) → Nat
  | [] => 0
  | d :: r => uptoBulk d + uptoBulkAll r
def uptoBulkEntries {H : Type} : List (Lit × DataW H) → Nat
  | [] => 0
  | x :: r => uptoBulkEntry x + uptoBulkEntries r
def uptoBulkEntry {H : Type} : Lit × DataW H → Nat
  | (.string bytes, d) => bytes.length + uptoBulk d + 1
  | (_, d) => uptoBulk d + 1
 end
def uptoSmall : (H : Type) → List (DataW H) → Bool := fun _ ds => decide (uptoBulkAll ds ≤ 1048576)
def OpenSpec.upto (s : _root_.Go.ChangeSpec) : _root_.Go.OpenSpec := { _root_.Go.OpenSpec.ofChange s with cond := some uptoSmall }

/-- 'wakemanlaw37.TraceRuns', WHERE WHAT IT READS IS OF BULK AT MOST 1048576: true; the input reads as it did. -/
def traceRunsUptoRow : OpenClaim := { program := "ytfhlllmicobafaa", sum := "348260bcc5295a7616bdc5c0468f72fb24066e7bbe281945007a97611b8017b9", func := "wakeman/wakemanlaw37.TraceRuns", spec := "traceRuns", unfollowed := true, recurses := true, apart := false, narrowed := true }
def TraceRunsUptoSaid : Prop := traceRunsUptoRow.holds Try.pinned (OpenSpec.upto traceRunsSpec)

/-- 'wakemanlaw37.TraceChecks', WHERE WHAT IT READS IS OF BULK AT MOST 1048576: true; the input reads as it did. -/
def traceChecksUptoRow : OpenClaim := { program := "ytfhlllmicobafaa", sum := "348260bcc5295a7616bdc5c0468f72fb24066e7bbe281945007a97611b8017b9", func := "wakeman/wakemanlaw37.TraceChecks", spec := "traceChecks", unfollowed := true, recurses := true, apart := false, narrowed := true }
def TraceChecksUptoSaid : Prop := traceChecksUptoRow.holds Try.pinned (OpenSpec.upto traceChecksSpec)

/-- 'wakemanlaw37.TraceTimes', WHERE WHAT IT READS IS OF BULK AT MOST 1048576: true; the input reads as it did. -/
def traceTimesUptoRow : OpenClaim := { program := "ytfhlllmicobafaa", sum := "348260bcc5295a7616bdc5c0468f72fb24066e7bbe281945007a97611b8017b9", func := "wakeman/wakemanlaw37.TraceTimes", spec := "traceTimes", unfollowed := true, recurses := true, apart := false, narrowed := true }
def TraceTimesUptoSaid : Prop := traceTimesUptoRow.holds Try.pinned (OpenSpec.upto traceTimesSpec)

/-- 'wakemanlaw37.TraceBegins', WHERE WHAT IT READS IS OF BULK AT MOST 1048576: true; the input reads as it did. -/
def traceBeginsUptoRow : OpenClaim := { program := "ytfhlllmicobafaa", sum := "348260bcc5295a7616bdc5c0468f72fb24066e7bbe281945007a97611b8017b9", func := "wakeman/wakemanlaw37.TraceBegins", spec := "traceBegins", unfollowed := true, recurses := true, apart := false, narrowed := true }
def TraceBeginsUptoSaid : Prop := traceBeginsUptoRow.holds Try.pinned (OpenSpec.upto traceBeginsSpec)

/-- 'wakemanlaw37.TraceParts', WHERE WHAT IT READS IS OF BULK AT MOST 1048576: true; the input reads as it did. -/
def tracePartsUptoRow : OpenClaim := { program := "ytfhlllmicobafaa", sum := "348260bcc5295a7616bdc5c0468f72fb24066e7bbe281945007a97611b8017b9", func := "wakeman/wakemanlaw37.TraceParts", spec := "traceParts", unfollowed := true, recurses := true, apart := false, narrowed := true }
def TracePartsUptoSaid : Prop := tracePartsUptoRow.holds Try.pinned (OpenSpec.upto tracePartsSpec)

/-- 'wakemanlaw37.TraceLaunches', WHERE WHAT IT READS IS OF BULK AT MOST 1048576: true; the input reads as it did. -/
def traceLaunchesUptoRow : OpenClaim := { program := "ytfhlllmicobafaa", sum := "348260bcc5295a7616bdc5c0468f72fb24066e7bbe281945007a97611b8017b9", func := "wakeman/wakemanlaw37.TraceLaunches", spec := "traceLaunches", unfollowed := true, recurses := true, apart := false, narrowed := true }
def TraceLaunchesUptoSaid : Prop := traceLaunchesUptoRow.holds Try.pinned (OpenSpec.upto traceLaunchesSpec)

/-- 'wakemanlaw37.TraceOutcomes', WHERE WHAT IT READS IS OF BULK AT MOST 1048576: true; the input reads as it did. -/
def traceOutcomesUptoRow : OpenClaim := { program := "ytfhlllmicobafaa", sum := "348260bcc5295a7616bdc5c0468f72fb24066e7bbe281945007a97611b8017b9", func := "wakeman/wakemanlaw37.TraceOutcomes", spec := "traceOutcomes", unfollowed := true, recurses := true, apart := false, narrowed := true }
def TraceOutcomesUptoSaid : Prop := traceOutcomesUptoRow.holds Try.pinned (OpenSpec.upto traceOutcomesSpec)

/-- 'wakemanlaw37.TraceUnder', WHERE WHAT IT READS IS OF BULK AT MOST 1048576: true; the input reads as it did. -/
def traceUnderUptoRow : OpenClaim := { program := "ytfhlllmicobafaa", sum := "348260bcc5295a7616bdc5c0468f72fb24066e7bbe281945007a97611b8017b9", func := "wakeman/wakemanlaw37.TraceUnder", spec := "traceUnder", unfollowed := true, recurses := true, apart := false, narrowed := true }
def TraceUnderUptoSaid : Prop := traceUnderUptoRow.holds Try.pinned (OpenSpec.upto traceUnderSpec)

/-- 'wakemanlaw37.TraceTallies', WHERE WHAT IT READS IS OF BULK AT MOST 1048576: true; the input reads as it did. -/
def traceTalliesUptoRow : OpenClaim := { program := "ytfhlllmicobafaa", sum := "348260bcc5295a7616bdc5c0468f72fb24066e7bbe281945007a97611b8017b9", func := "wakeman/wakemanlaw37.TraceTallies", spec := "traceTallies", unfollowed := true, recurses := true, apart := false, narrowed := true }
def TraceTalliesUptoSaid : Prop := traceTalliesUptoRow.holds Try.pinned (OpenSpec.upto traceTalliesSpec)

/-- 'wakemanlaw37.TraceEnds', WHERE WHAT IT READS IS OF BULK AT MOST 1048576: true; the input reads as it did. -/
def traceEndsUptoRow : OpenClaim := { program := "ytfhlllmicobafaa", sum := "348260bcc5295a7616bdc5c0468f72fb24066e7bbe281945007a97611b8017b9", func := "wakeman/wakemanlaw37.TraceEnds", spec := "traceEnds", unfollowed := true, recurses := true, apart := false, narrowed := true }
def TraceEndsUptoSaid : Prop := traceEndsUptoRow.holds Try.pinned (OpenSpec.upto traceEndsSpec)

end Rows
end Go.Proofs.Ytfhlllmicobafaa

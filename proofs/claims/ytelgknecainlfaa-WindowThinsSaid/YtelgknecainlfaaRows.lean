/-
  No cell of these rows narrows 'for every input' (looked for: loops, veiled, ifaces, maps, wideKeys, modest, calm, conditions, laid).
  DERIVED. THE GIVEN ROWS OF THIS SEAT. 10 by the template 'for every input the law returns true; each argument reads behind the call as it read before'; 0 by the template 'total and deterministic' (their statements: YtelgknecainlfaaTotals.lean).
  GIVEN WITH THE SEED: the statements are not yours to turn. If you find one false, say at which input.
  Laid BY PROGRAM, IN A SANDBOX (cutbox-rows.mjs): the forced cells as the released guide's own fill.sh prints them over the translation fcde0b76926f86e7… (all of the seat's roots in one cut). By AI agents, Wed Nov 11 2026. No macro, syntax, notation, axiom, sorry.
-/
import Derived.Test.YtelgknecainlfaaChecked
import GoSem.Claim
import GoSem.ClaimJoined
import GoSem.ClaimMapViews
import Derived.JoinedTies
import Derived.KernelRfl
namespace Go.Proofs.Ytelgknecainlfaa
/- THE CELL 'sum', in the pinned program and in every row, IS THE sha256 OF THE DUMP (.gsa) THAT YtelgknecainlfaaProg.lean LOADS. Nothing in Lean hashes anything: it is a label: what it is worth is what the hold of that sum in a sandbox is worth. -/
noncomputable def Try.pinned : Pinned := { name := "ytelgknecainlfaa", sum := "fcde0b76926f86e7e2ebc2cde3fe7fb9e7a4376b6dfccba1cd9616f3fab1bfc9", checked := Try.checked }
namespace Rows
def none {H : Type} : Left H := { results := [], args := [] }

/-- 'wakemanlaw24.WindowKeeps': WHATEVER THE INPUT: true; the input reads as it did. -/
def windowKeepsSpec : ChangeSpec := { name := "windowKeeps", fn := fun _ => fun
  | [d1, d2, d3] => { results := [.lit (.bool true)], args := [d1, d2, d3] }
  | _ => none }
def windowKeepsRow : OpenClaim := { program := "ytelgknecainlfaa", sum := "fcde0b76926f86e7e2ebc2cde3fe7fb9e7a4376b6dfccba1cd9616f3fab1bfc9", func := "wakeman/wakemanlaw24.WindowKeeps", spec := "windowKeeps", unfollowed := true, recurses := true, apart := false }
def WindowKeepsSaid : Prop := windowKeepsRow.holds Try.pinned (OpenSpec.ofChange windowKeepsSpec)

/-- ITS FALSE NEIGHBOUR: 'it returns false'. Refute it at one input. -/
def windowKeepsWrong : ChangeSpec := { name := "windowKeeps", fn := fun _ => fun
  | [d1, d2, d3] => { results := [.lit (.bool false)], args := [d1, d2, d3] }
  | _ => none }
def WindowKeepsWrongFalsely : Prop := windowKeepsRow.holds Try.pinned (OpenSpec.ofChange windowKeepsWrong)

/-- 'wakemanlaw24.WindowBounds': WHATEVER THE INPUT: true; the input reads as it did. -/
def windowBoundsSpec : ChangeSpec := { name := "windowBounds", fn := fun _ => fun
  | [d1, d2, d3] => { results := [.lit (.bool true)], args := [d1, d2, d3] }
  | _ => none }
def windowBoundsRow : OpenClaim := { program := "ytelgknecainlfaa", sum := "fcde0b76926f86e7e2ebc2cde3fe7fb9e7a4376b6dfccba1cd9616f3fab1bfc9", func := "wakeman/wakemanlaw24.WindowBounds", spec := "windowBounds", unfollowed := true, recurses := true, apart := false }
def WindowBoundsSaid : Prop := windowBoundsRow.holds Try.pinned (OpenSpec.ofChange windowBoundsSpec)

/-- ITS FALSE NEIGHBOUR: 'it returns false'. Refute it at one input. -/
def windowBoundsWrong : ChangeSpec := { name := "windowBounds", fn := fun _ => fun
  | [d1, d2, d3] => { results := [.lit (.bool false)], args := [d1, d2, d3] }
  | _ => none }
def WindowBoundsWrongFalsely : Prop := windowBoundsRow.holds Try.pinned (OpenSpec.ofChange windowBoundsWrong)

/-- 'wakemanlaw24.WindowThins': WHATEVER THE INPUT: true; the input reads as it did. -/
def windowThinsSpec : ChangeSpec := { name := "windowThins", fn := fun _ => fun
  | [d1, d2] => { results := [.lit (.bool true)], args := [d1, d2] }
  | _ => none }
def windowThinsRow : OpenClaim := { program := "ytelgknecainlfaa", sum := "fcde0b76926f86e7e2ebc2cde3fe7fb9e7a4376b6dfccba1cd9616f3fab1bfc9", func := "wakeman/wakemanlaw24.WindowThins", spec := "windowThins", unfollowed := true, recurses := true, apart := false }
def WindowThinsSaid : Prop := windowThinsRow.holds Try.pinned (OpenSpec.ofChange windowThinsSpec)

/-- ITS FALSE NEIGHBOUR: 'it returns false'. Refute it at one input. -/
def windowThinsWrong : ChangeSpec := { name := "windowThins", fn := fun _ => fun
  | [d1, d2] => { results := [.lit (.bool false)], args := [d1, d2] }
  | _ => none }
def WindowThinsWrongFalsely : Prop := windowThinsRow.holds Try.pinned (OpenSpec.ofChange windowThinsWrong)

/-- 'wakemanlaw24.WindowRuns': WHATEVER THE INPUT: true; the input reads as it did. -/
def windowRunsSpec : ChangeSpec := { name := "windowRuns", fn := fun _ => fun
  | [d1, d2, d3, d4] => { results := [.lit (.bool true)], args := [d1, d2, d3, d4] }
  | _ => none }
def windowRunsRow : OpenClaim := { program := "ytelgknecainlfaa", sum := "fcde0b76926f86e7e2ebc2cde3fe7fb9e7a4376b6dfccba1cd9616f3fab1bfc9", func := "wakeman/wakemanlaw24.WindowRuns", spec := "windowRuns", unfollowed := true, recurses := true, apart := false }
def WindowRunsSaid : Prop := windowRunsRow.holds Try.pinned (OpenSpec.ofChange windowRunsSpec)

/-- ITS FALSE NEIGHBOUR: 'it returns false'. Refute it at one input. -/
def windowRunsWrong : ChangeSpec := { name := "windowRuns", fn := fun _ => fun
  | [d1, d2, d3, d4] => { results := [.lit (.bool false)], args := [d1, d2, d3, d4] }
  | _ => none }
def WindowRunsWrongFalsely : Prop := windowRunsRow.holds Try.pinned (OpenSpec.ofChange windowRunsWrong)

/-- 'wakemanlaw24.WindowPeaks': WHATEVER THE INPUT: true; the input reads as it did. -/
def windowPeaksSpec : ChangeSpec := { name := "windowPeaks", fn := fun _ => fun
  | [d1, d2] => { results := [.lit (.bool true)], args := [d1, d2] }
  | _ => none }
def windowPeaksRow : OpenClaim := { program := "ytelgknecainlfaa", sum := "fcde0b76926f86e7e2ebc2cde3fe7fb9e7a4376b6dfccba1cd9616f3fab1bfc9", func := "wakeman/wakemanlaw24.WindowPeaks", spec := "windowPeaks", unfollowed := true, recurses := true, apart := false }
def WindowPeaksSaid : Prop := windowPeaksRow.holds Try.pinned (OpenSpec.ofChange windowPeaksSpec)

/-- ITS FALSE NEIGHBOUR: 'it returns false'. Refute it at one input. -/
def windowPeaksWrong : ChangeSpec := { name := "windowPeaks", fn := fun _ => fun
  | [d1, d2] => { results := [.lit (.bool false)], args := [d1, d2] }
  | _ => none }
def WindowPeaksWrongFalsely : Prop := windowPeaksRow.holds Try.pinned (OpenSpec.ofChange windowPeaksWrong)

/-- 'wakemanlaw24.WindowBusy': WHATEVER THE INPUT: true; the input reads as it did. -/
def windowBusySpec : ChangeSpec := { name := "windowBusy", fn := fun _ => fun
  | [d1, d2, d3, d4] => { results := [.lit (.bool true)], args := [d1, d2, d3, d4] }
  | _ => none }
def windowBusyRow : OpenClaim := { program := "ytelgknecainlfaa", sum := "fcde0b76926f86e7e2ebc2cde3fe7fb9e7a4376b6dfccba1cd9616f3fab1bfc9", func := "wakeman/wakemanlaw24.WindowBusy", spec := "windowBusy", unfollowed := true, recurses := true, apart := false }
def WindowBusySaid : Prop := windowBusyRow.holds Try.pinned (OpenSpec.ofChange windowBusySpec)

/-- ITS FALSE NEIGHBOUR: 'it returns false'. Refute it at one input. -/
def windowBusyWrong : ChangeSpec := { name := "windowBusy", fn := fun _ => fun
  | [d1, d2, d3, d4] => { results := [.lit (.bool false)], args := [d1, d2, d3, d4] }
  | _ => none }
def WindowBusyWrongFalsely : Prop := windowBusyRow.holds Try.pinned (OpenSpec.ofChange windowBusyWrong)

/-- 'wakemanlaw24.WindowCounts': WHATEVER THE INPUT: true; the input reads as it did. -/
def windowCountsSpec : ChangeSpec := { name := "windowCounts", fn := fun _ => fun
  | [d1, d2, d3, d4] => { results := [.lit (.bool true)], args := [d1, d2, d3, d4] }
  | _ => none }
def windowCountsRow : OpenClaim := { program := "ytelgknecainlfaa", sum := "fcde0b76926f86e7e2ebc2cde3fe7fb9e7a4376b6dfccba1cd9616f3fab1bfc9", func := "wakeman/wakemanlaw24.WindowCounts", spec := "windowCounts", unfollowed := true, recurses := true, apart := false }
def WindowCountsSaid : Prop := windowCountsRow.holds Try.pinned (OpenSpec.ofChange windowCountsSpec)

/-- ITS FALSE NEIGHBOUR: 'it returns false'. Refute it at one input. -/
def windowCountsWrong : ChangeSpec := { name := "windowCounts", fn := fun _ => fun
  | [d1, d2, d3, d4] => { results := [.lit (.bool false)], args := [d1, d2, d3, d4] }
  | _ => none }
def WindowCountsWrongFalsely : Prop := windowCountsRow.holds Try.pinned (OpenSpec.ofChange windowCountsWrong)

/-- 'wakemanlaw24.WindowSums': WHATEVER THE INPUT: true; the input reads as it did. -/
def windowSumsSpec : ChangeSpec := { name := "windowSums", fn := fun _ => fun
  | [d1, d2, d3, d4, d5] => { results := [.lit (.bool true)], args := [d1, d2, d3, d4, d5] }
  | _ => none }
def windowSumsRow : OpenClaim := { program := "ytelgknecainlfaa", sum := "fcde0b76926f86e7e2ebc2cde3fe7fb9e7a4376b6dfccba1cd9616f3fab1bfc9", func := "wakeman/wakemanlaw24.WindowSums", spec := "windowSums", unfollowed := true, recurses := true, apart := false }
def WindowSumsSaid : Prop := windowSumsRow.holds Try.pinned (OpenSpec.ofChange windowSumsSpec)

/-- ITS FALSE NEIGHBOUR: 'it returns false'. Refute it at one input. -/
def windowSumsWrong : ChangeSpec := { name := "windowSums", fn := fun _ => fun
  | [d1, d2, d3, d4, d5] => { results := [.lit (.bool false)], args := [d1, d2, d3, d4, d5] }
  | _ => none }
def WindowSumsWrongFalsely : Prop := windowSumsRow.holds Try.pinned (OpenSpec.ofChange windowSumsWrong)

/-- 'wakemanlaw24.WindowLimits': WHATEVER THE INPUT: true; the input reads as it did. -/
def windowLimitsSpec : ChangeSpec := { name := "windowLimits", fn := fun _ => fun
  | [d1, d2] => { results := [.lit (.bool true)], args := [d1, d2] }
  | _ => none }
def windowLimitsRow : OpenClaim := { program := "ytelgknecainlfaa", sum := "fcde0b76926f86e7e2ebc2cde3fe7fb9e7a4376b6dfccba1cd9616f3fab1bfc9", func := "wakeman/wakemanlaw24.WindowLimits", spec := "windowLimits", unfollowed := true, recurses := true, apart := false }
def WindowLimitsSaid : Prop := windowLimitsRow.holds Try.pinned (OpenSpec.ofChange windowLimitsSpec)

/-- ITS FALSE NEIGHBOUR: 'it returns false'. Refute it at one input. -/
def windowLimitsWrong : ChangeSpec := { name := "windowLimits", fn := fun _ => fun
  | [d1, d2] => { results := [.lit (.bool false)], args := [d1, d2] }
  | _ => none }
def WindowLimitsWrongFalsely : Prop := windowLimitsRow.holds Try.pinned (OpenSpec.ofChange windowLimitsWrong)

/-- 'wakemanlaw24.WindowKnown': WHATEVER THE INPUT: true; the input reads as it did. -/
def windowKnownSpec : ChangeSpec := { name := "windowKnown", fn := fun _ => fun
  | [] => { results := [.lit (.bool true)], args := [] }
  | _ => none }
def windowKnownRow : OpenClaim := { program := "ytelgknecainlfaa", sum := "fcde0b76926f86e7e2ebc2cde3fe7fb9e7a4376b6dfccba1cd9616f3fab1bfc9", func := "wakeman/wakemanlaw24.WindowKnown", spec := "windowKnown", unfollowed := true, recurses := true, apart := false }
def WindowKnownSaid : Prop := windowKnownRow.holds Try.pinned (OpenSpec.ofChange windowKnownSpec)

/-- ITS FALSE NEIGHBOUR: 'it returns false'. Refute it at one input. -/
def windowKnownWrong : ChangeSpec := { name := "windowKnown", fn := fun _ => fun
  | [] => { results := [.lit (.bool false)], args := [] }
  | _ => none }
def WindowKnownWrongFalsely : Prop := windowKnownRow.holds Try.pinned (OpenSpec.ofChange windowKnownWrong)

/- THE SECOND FORM. 'bulk': how many values and letters a reading holds, each counted each time it is reached (what is shared counts as often as it is met; a slice's spare places count too). A statement '..UptoSaid' is the law's where the arguments, and the package variables that the reading takes, are together of bulk at most 1048576: NARROWER than '..Said'. Prove '..Said' where nothing that the law and all that it calls make is longer than what came in: it says more and counts as full. Else prove '..UptoSaid'. A law counts once. -/
mutual
def uptoBulk {H : Type} : DataW H → Nat
  | .lit (.string bytes) => bytes.length + 1
  | .lit _ => 1
  | .nil => 1
  | .ptr d => uptoBulk d + 1
  | .slice elems spare => uptoBulkAll elems + uptoBulkAll spare + 1
  | .agg parts => uptoBulkAll parts + 1
  | .iface _ d => uptoBulk d + 1
  | .map entries => uptoBulkEntries entries + 1
  | .held _ => 1
def uptoBulkAll {H : Type} : List (DataW H) → Nat
  | [] => 0
  | d :: r => uptoBulk d + uptoBulkAll r
def uptoBulkEntries {H : Type} : List (Lit × DataW H) → Nat
  | [] => 0
  | x :: r => uptoBulkEntry x + uptoBulkEntries r
def uptoBulkEntry {H : Type} : Lit × DataW H → Nat
  | (.string bytes, d) => bytes.length + uptoBulk d + 1
  | (_, d) => uptoBulk d + 1
 end
def uptoSmall : (H : Type) → List (DataW H) → Bool := fun _ ds => decide (uptoBulkAll ds ≤ 1048576)
def OpenSpec.upto (s : _root_.Go.ChangeSpec) : _root_.Go.OpenSpec := { _root_.Go.OpenSpec.ofChange s with cond := some uptoSmall }

/-- 'wakemanlaw24.WindowKeeps', WHERE WHAT IT READS IS OF BULK AT MOST 1048576: true; the input reads as it did. -/
def windowKeepsUptoRow : OpenClaim := { program := "ytelgknecainlfaa", sum := "fcde0b76926f86e7e2ebc2cde3fe7fb9e7a4376b6dfccba1cd9616f3fab1bfc9", func := "wakeman/wakemanlaw24.WindowKeeps", spec := "windowKeeps", unfollowed := true, recurses := true, apart := false, narrowed := true }
def WindowKeepsUptoSaid : Prop := windowKeepsUptoRow.holds Try.pinned (OpenSpec.upto windowKeepsSpec)

/-- 'wakemanlaw24.WindowBounds', WHERE WHAT IT READS IS OF BULK AT MOST 1048576: true; the input reads as it did. -/
def windowBoundsUptoRow : OpenClaim := { program := "ytelgknecainlfaa", sum := "fcde0b76926f86e7e2ebc2cde3fe7fb9e7a4376b6dfccba1cd9616f3fab1bfc9", func := "wakeman/wakemanlaw24.WindowBounds", spec := "windowBounds", unfollowed := true, recurses := true, apart := false, narrowed := true }
def WindowBoundsUptoSaid : Prop := windowBoundsUptoRow.holds Try.pinned (OpenSpec.upto windowBoundsSpec)

/-- 'wakemanlaw24.WindowThins', WHERE WHAT IT READS IS OF BULK AT MOST 1048576: true; the input reads as it did. -/
def windowThinsUptoRow : OpenClaim := { program := "ytelgknecainlfaa", sum := "fcde0b76926f86e7e2ebc2cde3fe7fb9e7a4376b6dfccba1cd9616f3fab1bfc9", func := "wakeman/wakemanlaw24.WindowThins", spec := "windowThins", unfollowed := true, recurses := true, apart := false, narrowed := true }
def WindowThinsUptoSaid : Prop := windowThinsUptoRow.holds Try.pinned (OpenSpec.upto windowThinsSpec)

/-- 'wakemanlaw24.WindowRuns', WHERE WHAT IT READS IS OF BULK AT MOST 1048576: true; the input reads as it did. -/
def windowRunsUptoRow : OpenClaim := { program := "ytelgknecainlfaa", sum := "fcde0b76926f86e7e2ebc2cde3fe7fb9e7a4376b6dfccba1cd9616f3fab1bfc9", func := "wakeman/wakemanlaw24.WindowRuns", spec := "windowRuns", unfollowed := true, recurses := true, apart := false, narrowed := true }
def WindowRunsUptoSaid : Prop := windowRunsUptoRow.holds Try.pinned (OpenSpec.upto windowRunsSpec)

/-- 'wakemanlaw24.WindowPeaks', WHERE WHAT IT READS IS OF BULK AT MOST 1048576: true; the input reads as it did. -/
def windowPeaksUptoRow : OpenClaim := { program := "ytelgknecainlfaa", sum := "fcde0b76926f86e7e2ebc2cde3fe7fb9e7a4376b6dfccba1cd9616f3fab1bfc9", func := "wakeman/wakemanlaw24.WindowPeaks", spec := "windowPeaks", unfollowed := true, recurses := true, apart := false, narrowed := true }
def WindowPeaksUptoSaid : Prop := windowPeaksUptoRow.holds Try.pinned (OpenSpec.upto windowPeaksSpec)

/-- 'wakemanlaw24.WindowBusy', WHERE WHAT IT READS IS OF BULK AT MOST 1048576: true; the input reads as it did. -/
def windowBusyUptoRow : OpenClaim := { program := "ytelgknecainlfaa", sum := "fcde0b76926f86e7e2ebc2cde3fe7fb9e7a4376b6dfccba1cd9616f3fab1bfc9", func := "wakeman/wakemanlaw24.WindowBusy", spec := "windowBusy", unfollowed := true, recurses := true, apart := false, narrowed := true }
def WindowBusyUptoSaid : Prop := windowBusyUptoRow.holds Try.pinned (OpenSpec.upto windowBusySpec)

/-- 'wakemanlaw24.WindowCounts', WHERE WHAT IT READS IS OF BULK AT MOST 1048576: true; the input reads as it did. -/
def windowCountsUptoRow : OpenClaim := { program := "ytelgknecainlfaa", sum := "fcde0b76926f86e7e2ebc2cde3fe7fb9e7a4376b6dfccba1cd9616f3fab1bfc9", func := "wakeman/wakemanlaw24.WindowCounts", spec := "windowCounts", unfollowed := true, recurses := true, apart := false, narrowed := true }
def WindowCountsUptoSaid : Prop := windowCountsUptoRow.holds Try.pinned (OpenSpec.upto windowCountsSpec)

/-- 'wakemanlaw24.WindowSums', WHERE WHAT IT READS IS OF BULK AT MOST 1048576: true; the input reads as it did. -/
def windowSumsUptoRow : OpenClaim := { program := "ytelgknecainlfaa", sum := "fcde0b76926f86e7e2ebc2cde3fe7fb9e7a4376b6dfccba1cd9616f3fab1bfc9", func := "wakeman/wakemanlaw24.WindowSums", spec := "windowSums", unfollowed := true, recurses := true, apart := false, narrowed := true }
def WindowSumsUptoSaid : Prop := windowSumsUptoRow.holds Try.pinned (OpenSpec.upto windowSumsSpec)

/-- 'wakemanlaw24.WindowLimits', WHERE WHAT IT READS IS OF BULK AT MOST 1048576: true; the input reads as it did. -/
def windowLimitsUptoRow : OpenClaim := { program := "ytelgknecainlfaa", sum := "fcde0b76926f86e7e2ebc2cde3fe7fb9e7a4376b6dfccba1cd9616f3fab1bfc9", func := "wakeman/wakemanlaw24.WindowLimits", spec := "windowLimits", unfollowed := true, recurses := true, apart := false, narrowed := true }
def WindowLimitsUptoSaid : Prop := windowLimitsUptoRow.holds Try.pinned (OpenSpec.upto windowLimitsSpec)

/-- 'wakemanlaw24.WindowKnown', WHERE WHAT IT READS IS OF BULK AT MOST 1048576: true; the input reads as it did. -/
def windowKnownUptoRow : OpenClaim := { program := "ytelgknecainlfaa", sum := "fcde0b76926f86e7e2ebc2cde3fe7fb9e7a4376b6dfccba1cd9616f3fab1bfc9", func := "wakeman/wakemanlaw24.WindowKnown", spec := "windowKnown", unfollowed := true, recurses := true, apart := false, narrowed := true }
def WindowKnownUptoSaid : Prop := windowKnownUptoRow.holds Try.pinned (OpenSpec.upto windowKnownSpec)

end Rows
end Go.Proofs.Ytelgknecainlfaa

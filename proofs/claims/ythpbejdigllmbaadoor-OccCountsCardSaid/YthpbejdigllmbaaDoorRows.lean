/-
  NARROWER THAN 'FOR EVERY INPUT', by the rows' own cells (each row's printed sentence says how): OccWords: laid · OccCounts: laid · OccNames: laid · OccStates: laid · OccPaths: laid · OccLives: laid · OccStops: laid · OccReaches: laid · OccTable: laid.
  DERIVED. THE GIVEN ROWS OF THIS SEAT. 9 by the template 'for every input the law returns true; each argument reads behind the call as it read before'; 0 by the template 'total and deterministic' (their statements: YthpbejdigllmbaaDoorTotals.lean).
  GIVEN WITH THE SEED: the statements are not yours to turn. If you find one false, say at which input.
  Laid BY PROGRAM, IN A SANDBOX (cutbox-rows.mjs): the forced cells as the released guide's own fill.sh prints them over the translation 42cc771b3b0fd142… (all of the seat's roots in one cut). By AI agents, Wed Nov 11 2026. No macro, syntax, notation, axiom, sorry.
-/
import Derived.Test.YthpbejdigllmbaaDoorChecked
import GoSem.Claim
import GoSem.ClaimJoined
import GoSem.ClaimMapViews
import Derived.JoinedTies
import Derived.KernelRfl
namespace Go.Proofs.YthpbejdigllmbaaDoor
/- THE CELL 'sum', in the pinned program and in every row, IS THE sha256 OF THE DUMP (.gsa) THAT YthpbejdigllmbaaDoorProg.lean LOADS. Nothing in Lean hashes anything: it is a label: what it is worth is what the hold of that sum in a sandbox is worth. -/
noncomputable def Tryd.pinned : Pinned := { name := "ythpbejdigllmbaadoor", sum := "42cc771b3b0fd1425644f5019f399b4e2717da09f8f3547eb5ae31dac0414cbf", checked := Tryd.checked }
namespace Rows
def none {H : Type} : Left H := { results := [], args := [] }

/- WHAT THE LISTED PACKAGE-LEVEL VARIABLES READ AS WHEN THE CALL BEGINS. Each datum BY PROGRAM (the guide's laid-datum.mjs) off the statement by which the dump's own 'gosem.cut.vars' lays the variable. In a bare row this is a premise. The card (YthpbejdigllmbaaDoorCards.lean) ties it to the program's text. -/
def laid_wakeman_occ_leads {H : Type} : DataW H := .agg [.agg [.lit (.int .i64 1), .lit (.int .i64 2), .lit (.int .i64 (-1)), .lit (.int .i64 (-1)), .lit (.int .i64 (-1)), .lit (.int .i64 6)], .agg [.lit (.int .i64 (-1)), .lit (.int .i64 2), .lit (.int .i64 (-1)), .lit (.int .i64 (-1)), .lit (.int .i64 (-1)), .lit (.int .i64 6)], .agg [.lit (.int .i64 (-1)), .lit (.int .i64 (-1)), .lit (.int .i64 3), .lit (.int .i64 (-1)), .lit (.int .i64 (-1)), .lit (.int .i64 6)], .agg [.lit (.int .i64 (-1)), .lit (.int .i64 (-1)), .lit (.int .i64 (-1)), .lit (.int .i64 5), .lit (.int .i64 4), .lit (.int .i64 (-1))], .agg [.lit (.int .i64 (-1)), .lit (.int .i64 2), .lit (.int .i64 (-1)), .lit (.int .i64 (-1)), .lit (.int .i64 (-1)), .lit (.int .i64 6)], .agg [.lit (.int .i64 (-1)), .lit (.int .i64 (-1)), .lit (.int .i64 (-1)), .lit (.int .i64 (-1)), .lit (.int .i64 (-1)), .lit (.int .i64 (-1))], .agg [.lit (.int .i64 (-1)), .lit (.int .i64 (-1)), .lit (.int .i64 (-1)), .lit (.int .i64 (-1)), .lit (.int .i64 (-1)), .lit (.int .i64 (-1))]]
def laid_wakeman_occ_names {H : Type} : DataW H := .agg [.lit (.string [110, 101, 119]), .lit (.string [116, 105, 109, 101, 114]), .lit (.string [114, 101, 97, 100, 121]), .lit (.string [114, 117, 110, 110, 105, 110, 103]), .lit (.string [119, 97, 105, 116, 105, 110, 103]), .lit (.string [100, 111, 110, 101]), .lit (.string [100, 114, 111, 112, 112, 101, 100])]

/-- 'wakemanlaw33.OccWords': WHATEVER THE INPUT: true; the input reads as it did. -/
def occWordsSpec : ChangeSpec := { name := "occWords", fn := fun _ => fun
  | [d] => { results := [.lit (.bool true)], args := [d] }
  | _ => none }
def occWordsRow : OpenClaim := { program := "ythpbejdigllmbaadoor", sum := "42cc771b3b0fd1425644f5019f399b4e2717da09f8f3547eb5ae31dac0414cbf", func := "wakeman/wakemanlaw33.OccWords", spec := "occWords", unfollowed := true, recurses := true, named := ["wakeman/occ.leads", "wakeman/occ.names"], apart := false, laid := [("wakeman/occ.leads", laid_wakeman_occ_leads), ("wakeman/occ.names", laid_wakeman_occ_names)] }
def OccWordsSaid : Prop := occWordsRow.holds Tryd.pinned (OpenSpec.ofChange occWordsSpec)

/-- ITS FALSE NEIGHBOUR: 'it returns false'. Refute it at one input. -/
def occWordsWrong : ChangeSpec := { name := "occWords", fn := fun _ => fun
  | [d] => { results := [.lit (.bool false)], args := [d] }
  | _ => none }
def OccWordsWrongFalsely : Prop := occWordsRow.holds Tryd.pinned (OpenSpec.ofChange occWordsWrong)

/-- 'wakemanlaw33.OccCounts': WHATEVER THE INPUT: true; the input reads as it did. -/
def occCountsSpec : ChangeSpec := { name := "occCounts", fn := fun _ => fun
  | [d1, d2] => { results := [.lit (.bool true)], args := [d1, d2] }
  | _ => none }
def occCountsRow : OpenClaim := { program := "ythpbejdigllmbaadoor", sum := "42cc771b3b0fd1425644f5019f399b4e2717da09f8f3547eb5ae31dac0414cbf", func := "wakeman/wakemanlaw33.OccCounts", spec := "occCounts", unfollowed := true, recurses := true, named := ["wakeman/occ.leads", "wakeman/occ.names"], apart := false, laid := [("wakeman/occ.leads", laid_wakeman_occ_leads), ("wakeman/occ.names", laid_wakeman_occ_names)] }
def OccCountsSaid : Prop := occCountsRow.holds Tryd.pinned (OpenSpec.ofChange occCountsSpec)

/-- ITS FALSE NEIGHBOUR: 'it returns false'. Refute it at one input. -/
def occCountsWrong : ChangeSpec := { name := "occCounts", fn := fun _ => fun
  | [d1, d2] => { results := [.lit (.bool false)], args := [d1, d2] }
  | _ => none }
def OccCountsWrongFalsely : Prop := occCountsRow.holds Tryd.pinned (OpenSpec.ofChange occCountsWrong)

/-- 'wakemanlaw33.OccNames': WHATEVER THE INPUT: true; the input reads as it did. -/
def occNamesSpec : ChangeSpec := { name := "occNames", fn := fun _ => fun
  | [] => { results := [.lit (.bool true)], args := [] }
  | _ => none }
def occNamesRow : OpenClaim := { program := "ythpbejdigllmbaadoor", sum := "42cc771b3b0fd1425644f5019f399b4e2717da09f8f3547eb5ae31dac0414cbf", func := "wakeman/wakemanlaw33.OccNames", spec := "occNames", unfollowed := true, recurses := true, named := ["wakeman/occ.names", "wakeman/occ.leads"], apart := false, laid := [("wakeman/occ.leads", laid_wakeman_occ_leads), ("wakeman/occ.names", laid_wakeman_occ_names)] }
def OccNamesSaid : Prop := occNamesRow.holds Tryd.pinned (OpenSpec.ofChange occNamesSpec)

/-- ITS FALSE NEIGHBOUR: 'it returns false'. Refute it at one input. -/
def occNamesWrong : ChangeSpec := { name := "occNames", fn := fun _ => fun
  | [] => { results := [.lit (.bool false)], args := [] }
  | _ => none }
def OccNamesWrongFalsely : Prop := occNamesRow.holds Tryd.pinned (OpenSpec.ofChange occNamesWrong)

/-- 'wakemanlaw33.OccStates': WHATEVER THE INPUT: true; the input reads as it did. -/
def occStatesSpec : ChangeSpec := { name := "occStates", fn := fun _ => fun
  | [d1, d2] => { results := [.lit (.bool true)], args := [d1, d2] }
  | _ => none }
def occStatesRow : OpenClaim := { program := "ythpbejdigllmbaadoor", sum := "42cc771b3b0fd1425644f5019f399b4e2717da09f8f3547eb5ae31dac0414cbf", func := "wakeman/wakemanlaw33.OccStates", spec := "occStates", unfollowed := true, recurses := true, named := ["wakeman/occ.leads", "wakeman/occ.names"], apart := false, laid := [("wakeman/occ.leads", laid_wakeman_occ_leads), ("wakeman/occ.names", laid_wakeman_occ_names)] }
def OccStatesSaid : Prop := occStatesRow.holds Tryd.pinned (OpenSpec.ofChange occStatesSpec)

/-- ITS FALSE NEIGHBOUR: 'it returns false'. Refute it at one input. -/
def occStatesWrong : ChangeSpec := { name := "occStates", fn := fun _ => fun
  | [d1, d2] => { results := [.lit (.bool false)], args := [d1, d2] }
  | _ => none }
def OccStatesWrongFalsely : Prop := occStatesRow.holds Tryd.pinned (OpenSpec.ofChange occStatesWrong)

/-- 'wakemanlaw33.OccPaths': WHATEVER THE INPUT: true; the input reads as it did. -/
def occPathsSpec : ChangeSpec := { name := "occPaths", fn := fun _ => fun
  | [d] => { results := [.lit (.bool true)], args := [d] }
  | _ => none }
def occPathsRow : OpenClaim := { program := "ythpbejdigllmbaadoor", sum := "42cc771b3b0fd1425644f5019f399b4e2717da09f8f3547eb5ae31dac0414cbf", func := "wakeman/wakemanlaw33.OccPaths", spec := "occPaths", unfollowed := true, recurses := true, named := ["wakeman/occ.leads", "wakeman/occ.names"], apart := false, laid := [("wakeman/occ.leads", laid_wakeman_occ_leads), ("wakeman/occ.names", laid_wakeman_occ_names)] }
def OccPathsSaid : Prop := occPathsRow.holds Tryd.pinned (OpenSpec.ofChange occPathsSpec)

/-- ITS FALSE NEIGHBOUR: 'it returns false'. Refute it at one input. -/
def occPathsWrong : ChangeSpec := { name := "occPaths", fn := fun _ => fun
  | [d] => { results := [.lit (.bool false)], args := [d] }
  | _ => none }
def OccPathsWrongFalsely : Prop := occPathsRow.holds Tryd.pinned (OpenSpec.ofChange occPathsWrong)

/-- 'wakemanlaw33.OccLives': WHATEVER THE INPUT: true; the input reads as it did. -/
def occLivesSpec : ChangeSpec := { name := "occLives", fn := fun _ => fun
  | [d] => { results := [.lit (.bool true)], args := [d] }
  | _ => none }
def occLivesRow : OpenClaim := { program := "ythpbejdigllmbaadoor", sum := "42cc771b3b0fd1425644f5019f399b4e2717da09f8f3547eb5ae31dac0414cbf", func := "wakeman/wakemanlaw33.OccLives", spec := "occLives", unfollowed := true, recurses := true, named := ["wakeman/occ.leads", "wakeman/occ.names"], apart := false, laid := [("wakeman/occ.leads", laid_wakeman_occ_leads), ("wakeman/occ.names", laid_wakeman_occ_names)] }
def OccLivesSaid : Prop := occLivesRow.holds Tryd.pinned (OpenSpec.ofChange occLivesSpec)

/-- ITS FALSE NEIGHBOUR: 'it returns false'. Refute it at one input. -/
def occLivesWrong : ChangeSpec := { name := "occLives", fn := fun _ => fun
  | [d] => { results := [.lit (.bool false)], args := [d] }
  | _ => none }
def OccLivesWrongFalsely : Prop := occLivesRow.holds Tryd.pinned (OpenSpec.ofChange occLivesWrong)

/-- 'wakemanlaw33.OccStops': WHATEVER THE INPUT: true; the input reads as it did. -/
def occStopsSpec : ChangeSpec := { name := "occStops", fn := fun _ => fun
  | [d1, d2, d3] => { results := [.lit (.bool true)], args := [d1, d2, d3] }
  | _ => none }
def occStopsRow : OpenClaim := { program := "ythpbejdigllmbaadoor", sum := "42cc771b3b0fd1425644f5019f399b4e2717da09f8f3547eb5ae31dac0414cbf", func := "wakeman/wakemanlaw33.OccStops", spec := "occStops", unfollowed := true, recurses := true, named := ["wakeman/occ.leads", "wakeman/occ.names"], apart := false, laid := [("wakeman/occ.leads", laid_wakeman_occ_leads), ("wakeman/occ.names", laid_wakeman_occ_names)] }
def OccStopsSaid : Prop := occStopsRow.holds Tryd.pinned (OpenSpec.ofChange occStopsSpec)

/-- ITS FALSE NEIGHBOUR: 'it returns false'. Refute it at one input. -/
def occStopsWrong : ChangeSpec := { name := "occStops", fn := fun _ => fun
  | [d1, d2, d3] => { results := [.lit (.bool false)], args := [d1, d2, d3] }
  | _ => none }
def OccStopsWrongFalsely : Prop := occStopsRow.holds Tryd.pinned (OpenSpec.ofChange occStopsWrong)

/-- 'wakemanlaw33.OccReaches': WHATEVER THE INPUT: true; the input reads as it did. -/
def occReachesSpec : ChangeSpec := { name := "occReaches", fn := fun _ => fun
  | [d] => { results := [.lit (.bool true)], args := [d] }
  | _ => none }
def occReachesRow : OpenClaim := { program := "ythpbejdigllmbaadoor", sum := "42cc771b3b0fd1425644f5019f399b4e2717da09f8f3547eb5ae31dac0414cbf", func := "wakeman/wakemanlaw33.OccReaches", spec := "occReaches", unfollowed := true, recurses := true, named := ["wakeman/occ.leads", "wakeman/occ.names"], apart := false, laid := [("wakeman/occ.leads", laid_wakeman_occ_leads), ("wakeman/occ.names", laid_wakeman_occ_names)] }
def OccReachesSaid : Prop := occReachesRow.holds Tryd.pinned (OpenSpec.ofChange occReachesSpec)

/-- ITS FALSE NEIGHBOUR: 'it returns false'. Refute it at one input. -/
def occReachesWrong : ChangeSpec := { name := "occReaches", fn := fun _ => fun
  | [d] => { results := [.lit (.bool false)], args := [d] }
  | _ => none }
def OccReachesWrongFalsely : Prop := occReachesRow.holds Tryd.pinned (OpenSpec.ofChange occReachesWrong)

/-- 'wakemanlaw33.OccTable': WHATEVER THE INPUT: true; the input reads as it did. -/
def occTableSpec : ChangeSpec := { name := "occTable", fn := fun _ => fun
  | [d1, d2] => { results := [.lit (.bool true)], args := [d1, d2] }
  | _ => none }
def occTableRow : OpenClaim := { program := "ythpbejdigllmbaadoor", sum := "42cc771b3b0fd1425644f5019f399b4e2717da09f8f3547eb5ae31dac0414cbf", func := "wakeman/wakemanlaw33.OccTable", spec := "occTable", unfollowed := true, recurses := true, named := ["wakeman/occ.leads", "wakeman/occ.names"], apart := false, laid := [("wakeman/occ.leads", laid_wakeman_occ_leads), ("wakeman/occ.names", laid_wakeman_occ_names)] }
def OccTableSaid : Prop := occTableRow.holds Tryd.pinned (OpenSpec.ofChange occTableSpec)

/-- ITS FALSE NEIGHBOUR: 'it returns false'. Refute it at one input. -/
def occTableWrong : ChangeSpec := { name := "occTable", fn := fun _ => fun
  | [d1, d2] => { results := [.lit (.bool false)], args := [d1, d2] }
  | _ => none }
def OccTableWrongFalsely : Prop := occTableRow.holds Tryd.pinned (OpenSpec.ofChange occTableWrong)

/- THE SECOND FORM. 'bulk': how many values and letters a reading holds, each counted each time it is reached (what is shared counts as often as it is met; a slice's spare places count too). A statement '..UptoSaid' is the law's where the arguments, and the package variables that the reading takes, are together of bulk at most 1048576: NARROWER than '..Said'. Prove '..Said' where nothing that the law and all that it calls make is longer than what came in: it says more and counts as full. Else prove '..UptoSaid'. A law counts once. -/
mutual
def uptoBulk {H : Type} : DataW H → Nat
  | .lit (.string bytes) => bytes.length + 1
  | .lit _ => 1
  | .nil => 1
  | .ptr d => uptoBulk d + 1
  | .slice elems spare => uptoBulkAll elems + uptoBulkAll spare + 1
  | .agg parts => uptoBulkAll parts + 1
  | .iface _ d => uptoBulk d + 1
  | .map entries => uptoBulkEntries entries + 1
  | .held _ => 1
def uptoBulkAll {H : Type} : List (DataW H) → Nat
  | [] => 0
  | d :: r => uptoBulk d + uptoBulkAll r
def uptoBulkEntries {H : Type} : List (Lit × DataW H) → Nat
  | [] => 0
  | x :: r => uptoBulkEntry x + uptoBulkEntries r
def uptoBulkEntry {H : Type} : Lit × DataW H → Nat
  | (.string bytes, d) => bytes.length + uptoBulk d + 1
  | (_, d) => uptoBulk d + 1
 end
def uptoSmall : (H : Type) → List (DataW H) → Bool := fun _ ds => decide (uptoBulkAll ds ≤ 1048576)
def OpenSpec.upto (s : _root_.Go.ChangeSpec) : _root_.Go.OpenSpec := { _root_.Go.OpenSpec.ofChange s with cond := some uptoSmall }

/-- 'wakemanlaw33.OccWords', WHERE WHAT IT READS IS OF BULK AT MOST 1048576: true; the input reads as it did. -/
def occWordsUptoRow : OpenClaim := { program := "ythpbejdigllmbaadoor", sum := "42cc771b3b0fd1425644f5019f399b4e2717da09f8f3547eb5ae31dac0414cbf", func := "wakeman/wakemanlaw33.OccWords", spec := "occWords", unfollowed := true, recurses := true, named := ["wakeman/occ.leads", "wakeman/occ.names"], apart := false, laid := [("wakeman/occ.leads", laid_wakeman_occ_leads), ("wakeman/occ.names", laid_wakeman_occ_names)], narrowed := true }
def OccWordsUptoSaid : Prop := occWordsUptoRow.holds Tryd.pinned (OpenSpec.upto occWordsSpec)

/-- 'wakemanlaw33.OccCounts', WHERE WHAT IT READS IS OF BULK AT MOST 1048576: true; the input reads as it did. -/
def occCountsUptoRow : OpenClaim := { program := "ythpbejdigllmbaadoor", sum := "42cc771b3b0fd1425644f5019f399b4e2717da09f8f3547eb5ae31dac0414cbf", func := "wakeman/wakemanlaw33.OccCounts", spec := "occCounts", unfollowed := true, recurses := true, named := ["wakeman/occ.leads", "wakeman/occ.names"], apart := false, laid := [("wakeman/occ.leads", laid_wakeman_occ_leads), ("wakeman/occ.names", laid_wakeman_occ_names)], narrowed := true }
def OccCountsUptoSaid : Prop := occCountsUptoRow.holds Tryd.pinned (OpenSpec.upto occCountsSpec)

/-- 'wakemanlaw33.OccNames', WHERE WHAT IT READS IS OF BULK AT MOST 1048576: true; the input reads as it did. -/
def occNamesUptoRow : OpenClaim := { program := "ythpbejdigllmbaadoor", sum := "42cc771b3b0fd1425644f5019f399b4e2717da09f8f3547eb5ae31dac0414cbf", func := "wakeman/wakemanlaw33.OccNames", spec := "occNames", unfollowed := true, recurses := true, named := ["wakeman/occ.names", "wakeman/occ.leads"], apart := false, laid := [("wakeman/occ.leads", laid_wakeman_occ_leads), ("wakeman/occ.names", laid_wakeman_occ_names)], narrowed := true }
def OccNamesUptoSaid : Prop := occNamesUptoRow.holds Tryd.pinned (OpenSpec.upto occNamesSpec)

/-- 'wakemanlaw33.OccStates', WHERE WHAT IT READS IS OF BULK AT MOST 1048576: true; the input reads as it did. -/
def occStatesUptoRow : OpenClaim := { program := "ythpbejdigllmbaadoor", sum := "42cc771b3b0fd1425644f5019f399b4e2717da09f8f3547eb5ae31dac0414cbf", func := "wakeman/wakemanlaw33.OccStates", spec := "occStates", unfollowed := true, recurses := true, named := ["wakeman/occ.leads", "wakeman/occ.names"], apart := false, laid := [("wakeman/occ.leads", laid_wakeman_occ_leads), ("wakeman/occ.names", laid_wakeman_occ_names)], narrowed := true }
def OccStatesUptoSaid : Prop := occStatesUptoRow.holds Tryd.pinned (OpenSpec.upto occStatesSpec)

/-- 'wakemanlaw33.OccPaths', WHERE WHAT IT READS IS OF BULK AT MOST 1048576: true; the input reads as it did. -/
def occPathsUptoRow : OpenClaim := { program := "ythpbejdigllmbaadoor", sum := "42cc771b3b0fd1425644f5019f399b4e2717da09f8f3547eb5ae31dac0414cbf", func := "wakeman/wakemanlaw33.OccPaths", spec := "occPaths", unfollowed := true, recurses := true, named := ["wakeman/occ.leads", "wakeman/occ.names"], apart := false, laid := [("wakeman/occ.leads", laid_wakeman_occ_leads), ("wakeman/occ.names", laid_wakeman_occ_names)], narrowed := true }
def OccPathsUptoSaid : Prop := occPathsUptoRow.holds Tryd.pinned (OpenSpec.upto occPathsSpec)

/-- 'wakemanlaw33.OccLives', WHERE WHAT IT READS IS OF BULK AT MOST 1048576: true; the input reads as it did. -/
def occLivesUptoRow : OpenClaim := { program := "ythpbejdigllmbaadoor", sum := "42cc771b3b0fd1425644f5019f399b4e2717da09f8f3547eb5ae31dac0414cbf", func := "wakeman/wakemanlaw33.OccLives", spec := "occLives", unfollowed := true, recurses := true, named := ["wakeman/occ.leads", "wakeman/occ.names"], apart := false, laid := [("wakeman/occ.leads", laid_wakeman_occ_leads), ("wakeman/occ.names", laid_wakeman_occ_names)], narrowed := true }
def OccLivesUptoSaid : Prop := occLivesUptoRow.holds Tryd.pinned (OpenSpec.upto occLivesSpec)

/-- 'wakemanlaw33.OccStops', WHERE WHAT IT READS IS OF BULK AT MOST 1048576: true; the input reads as it did. -/
def occStopsUptoRow : OpenClaim := { program := "ythpbejdigllmbaadoor", sum := "42cc771b3b0fd1425644f5019f399b4e2717da09f8f3547eb5ae31dac0414cbf", func := "wakeman/wakemanlaw33.OccStops", spec := "occStops", unfollowed := true, recurses := true, named := ["wakeman/occ.leads", "wakeman/occ.names"], apart := false, laid := [("wakeman/occ.leads", laid_wakeman_occ_leads), ("wakeman/occ.names", laid_wakeman_occ_names)], narrowed := true }
def OccStopsUptoSaid : Prop := occStopsUptoRow.holds Tryd.pinned (OpenSpec.upto occStopsSpec)

/-- 'wakemanlaw33.OccReaches', WHERE WHAT IT READS IS OF BULK AT MOST 1048576: true; the input reads as it did. -/
def occReachesUptoRow : OpenClaim := { program := "ythpbejdigllmbaadoor", sum := "42cc771b3b0fd1425644f5019f399b4e2717da09f8f3547eb5ae31dac0414cbf", func := "wakeman/wakemanlaw33.OccReaches", spec := "occReaches", unfollowed := true, recurses := true, named := ["wakeman/occ.leads", "wakeman/occ.names"], apart := false, laid := [("wakeman/occ.leads", laid_wakeman_occ_leads), ("wakeman/occ.names", laid_wakeman_occ_names)], narrowed := true }
def OccReachesUptoSaid : Prop := occReachesUptoRow.holds Tryd.pinned (OpenSpec.upto occReachesSpec)

/-- 'wakemanlaw33.OccTable', WHERE WHAT IT READS IS OF BULK AT MOST 1048576: true; the input reads as it did. -/
def occTableUptoRow : OpenClaim := { program := "ythpbejdigllmbaadoor", sum := "42cc771b3b0fd1425644f5019f399b4e2717da09f8f3547eb5ae31dac0414cbf", func := "wakeman/wakemanlaw33.OccTable", spec := "occTable", unfollowed := true, recurses := true, named := ["wakeman/occ.leads", "wakeman/occ.names"], apart := false, laid := [("wakeman/occ.leads", laid_wakeman_occ_leads), ("wakeman/occ.names", laid_wakeman_occ_names)], narrowed := true }
def OccTableUptoSaid : Prop := occTableUptoRow.holds Tryd.pinned (OpenSpec.upto occTableSpec)

end Rows
end Go.Proofs.YthpbejdigllmbaaDoor

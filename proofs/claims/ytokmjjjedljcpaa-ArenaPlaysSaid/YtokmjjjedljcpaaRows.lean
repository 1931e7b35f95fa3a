/-
  No cell of these rows narrows 'for every input' (looked for: loops, veiled, ifaces, maps, wideKeys, modest, calm, conditions, laid).
  DERIVED. THE GIVEN ROWS OF THIS SEAT. 7 by the template 'for every input the law returns true; each argument reads behind the call as it read before'; 0 by the template 'total and deterministic' (their statements: YtokmjjjedljcpaaTotals.lean).
  GIVEN WITH THE SEED: the statements are not yours to turn. If you find one false, say at which input.
  Laid BY PROGRAM, IN A SANDBOX (cutbox-rows.mjs): the forced cells as the released guide's own fill.sh prints them over the translation b344f5ec5d84320d… (all of the seat's roots in one cut). By AI agents, Wed Nov 11 2026. No macro, syntax, notation, axiom, sorry.
-/
import Derived.Test.YtokmjjjedljcpaaChecked
import GoSem.Claim
import GoSem.ClaimJoined
import GoSem.ClaimMapViews
import Derived.JoinedTies
import Derived.KernelRfl
namespace Go.Proofs.Ytokmjjjedljcpaa
/- THE CELL 'sum', in the pinned program and in every row, IS THE sha256 OF THE DUMP (.gsa) THAT YtokmjjjedljcpaaProg.lean LOADS. Nothing in Lean hashes anything: it is a label: what it is worth is what the hold of that sum in a sandbox is worth. -/
noncomputable def Try.pinned : Pinned := { name := "ytokmjjjedljcpaa", sum := "b344f5ec5d84320df61feabb45dce941a22c835fbbbc18fffa32bbe46f54f165", checked := Try.checked }
namespace Rows
def none {H : Type} : Left H := { results := [], args := [] }

/-- 'wakemanlaw17.ArenaStack': WHATEVER THE INPUT: true; the input reads as it did. -/
def arenaStackSpec : ChangeSpec := { name := "arenaStack", fn := fun _ => fun
  | [d1, d2, d3] => { results := [.lit (.bool true)], args := [d1, d2, d3] }
  | _ => none }
def arenaStackRow : OpenClaim := { program := "ytokmjjjedljcpaa", sum := "b344f5ec5d84320df61feabb45dce941a22c835fbbbc18fffa32bbe46f54f165", func := "wakeman/wakemanlaw17.ArenaStack", spec := "arenaStack", apart := false }
def ArenaStackSaid : Prop := arenaStackRow.holds Try.pinned (OpenSpec.ofChange arenaStackSpec)

/-- ITS FALSE NEIGHBOUR: 'it returns false'. Refute it at one input. -/
def arenaStackWrong : ChangeSpec := { name := "arenaStack", fn := fun _ => fun
  | [d1, d2, d3] => { results := [.lit (.bool false)], args := [d1, d2, d3] }
  | _ => none }
def ArenaStackWrongFalsely : Prop := arenaStackRow.holds Try.pinned (OpenSpec.ofChange arenaStackWrong)

/-- 'wakemanlaw17.ArenaUses': WHATEVER THE INPUT: true; the input reads as it did. -/
def arenaUsesSpec : ChangeSpec := { name := "arenaUses", fn := fun _ => fun
  | [d1, d2] => { results := [.lit (.bool true)], args := [d1, d2] }
  | _ => none }
def arenaUsesRow : OpenClaim := { program := "ytokmjjjedljcpaa", sum := "b344f5ec5d84320df61feabb45dce941a22c835fbbbc18fffa32bbe46f54f165", func := "wakeman/wakemanlaw17.ArenaUses", spec := "arenaUses", apart := false }
def ArenaUsesSaid : Prop := arenaUsesRow.holds Try.pinned (OpenSpec.ofChange arenaUsesSpec)

/-- ITS FALSE NEIGHBOUR: 'it returns false'. Refute it at one input. -/
def arenaUsesWrong : ChangeSpec := { name := "arenaUses", fn := fun _ => fun
  | [d1, d2] => { results := [.lit (.bool false)], args := [d1, d2] }
  | _ => none }
def ArenaUsesWrongFalsely : Prop := arenaUsesRow.holds Try.pinned (OpenSpec.ofChange arenaUsesWrong)

/-- 'wakemanlaw17.ArenaFull': WHATEVER THE INPUT: true; the input reads as it did. -/
def arenaFullSpec : ChangeSpec := { name := "arenaFull", fn := fun _ => fun
  | [d1, d2] => { results := [.lit (.bool true)], args := [d1, d2] }
  | _ => none }
def arenaFullRow : OpenClaim := { program := "ytokmjjjedljcpaa", sum := "b344f5ec5d84320df61feabb45dce941a22c835fbbbc18fffa32bbe46f54f165", func := "wakeman/wakemanlaw17.ArenaFull", spec := "arenaFull", unfollowed := true, recurses := true, apart := false }
def ArenaFullSaid : Prop := arenaFullRow.holds Try.pinned (OpenSpec.ofChange arenaFullSpec)

/-- ITS FALSE NEIGHBOUR: 'it returns false'. Refute it at one input. -/
def arenaFullWrong : ChangeSpec := { name := "arenaFull", fn := fun _ => fun
  | [d1, d2] => { results := [.lit (.bool false)], args := [d1, d2] }
  | _ => none }
def ArenaFullWrongFalsely : Prop := arenaFullRow.holds Try.pinned (OpenSpec.ofChange arenaFullWrong)

/-- 'wakemanlaw17.ArenaNews': WHATEVER THE INPUT: true; the input reads as it did. -/
def arenaNewsSpec : ChangeSpec := { name := "arenaNews", fn := fun _ => fun
  | [d1, d2, d3] => { results := [.lit (.bool true)], args := [d1, d2, d3] }
  | _ => none }
def arenaNewsRow : OpenClaim := { program := "ytokmjjjedljcpaa", sum := "b344f5ec5d84320df61feabb45dce941a22c835fbbbc18fffa32bbe46f54f165", func := "wakeman/wakemanlaw17.ArenaNews", spec := "arenaNews", unfollowed := true, recurses := true, apart := false }
def ArenaNewsSaid : Prop := arenaNewsRow.holds Try.pinned (OpenSpec.ofChange arenaNewsSpec)

/-- ITS FALSE NEIGHBOUR: 'it returns false'. Refute it at one input. -/
def arenaNewsWrong : ChangeSpec := { name := "arenaNews", fn := fun _ => fun
  | [d1, d2, d3] => { results := [.lit (.bool false)], args := [d1, d2, d3] }
  | _ => none }
def ArenaNewsWrongFalsely : Prop := arenaNewsRow.holds Try.pinned (OpenSpec.ofChange arenaNewsWrong)

/-- 'wakemanlaw17.ArenaPlays': WHATEVER THE INPUT: true; the input reads as it did. -/
def arenaPlaysSpec : ChangeSpec := { name := "arenaPlays", fn := fun _ => fun
  | [d1, d2, d3] => { results := [.lit (.bool true)], args := [d1, d2, d3] }
  | _ => none }
def arenaPlaysRow : OpenClaim := { program := "ytokmjjjedljcpaa", sum := "b344f5ec5d84320df61feabb45dce941a22c835fbbbc18fffa32bbe46f54f165", func := "wakeman/wakemanlaw17.ArenaPlays", spec := "arenaPlays", unfollowed := true, recurses := true, apart := false }
def ArenaPlaysSaid : Prop := arenaPlaysRow.holds Try.pinned (OpenSpec.ofChange arenaPlaysSpec)

/-- ITS FALSE NEIGHBOUR: 'it returns false'. Refute it at one input. -/
def arenaPlaysWrong : ChangeSpec := { name := "arenaPlays", fn := fun _ => fun
  | [d1, d2, d3] => { results := [.lit (.bool false)], args := [d1, d2, d3] }
  | _ => none }
def ArenaPlaysWrongFalsely : Prop := arenaPlaysRow.holds Try.pinned (OpenSpec.ofChange arenaPlaysWrong)

/-- 'wakemanlaw17.ArenaCopies': WHATEVER THE INPUT: true; the input reads as it did. -/
def arenaCopiesSpec : ChangeSpec := { name := "arenaCopies", fn := fun _ => fun
  | [d1, d2, d3] => { results := [.lit (.bool true)], args := [d1, d2, d3] }
  | _ => none }
def arenaCopiesRow : OpenClaim := { program := "ytokmjjjedljcpaa", sum := "b344f5ec5d84320df61feabb45dce941a22c835fbbbc18fffa32bbe46f54f165", func := "wakeman/wakemanlaw17.ArenaCopies", spec := "arenaCopies", unfollowed := true, recurses := true, apart := false }
def ArenaCopiesSaid : Prop := arenaCopiesRow.holds Try.pinned (OpenSpec.ofChange arenaCopiesSpec)

/-- ITS FALSE NEIGHBOUR: 'it returns false'. Refute it at one input. -/
def arenaCopiesWrong : ChangeSpec := { name := "arenaCopies", fn := fun _ => fun
  | [d1, d2, d3] => { results := [.lit (.bool false)], args := [d1, d2, d3] }
  | _ => none }
def ArenaCopiesWrongFalsely : Prop := arenaCopiesRow.holds Try.pinned (OpenSpec.ofChange arenaCopiesWrong)

/-- 'wakemanlaw17.ArenaOnce': WHATEVER THE INPUT: true; the input reads as it did. -/
def arenaOnceSpec : ChangeSpec := { name := "arenaOnce", fn := fun _ => fun
  | [d1, d2] => { results := [.lit (.bool true)], args := [d1, d2] }
  | _ => none }
def arenaOnceRow : OpenClaim := { program := "ytokmjjjedljcpaa", sum := "b344f5ec5d84320df61feabb45dce941a22c835fbbbc18fffa32bbe46f54f165", func := "wakeman/wakemanlaw17.ArenaOnce", spec := "arenaOnce", unfollowed := true, recurses := true, apart := false }
def ArenaOnceSaid : Prop := arenaOnceRow.holds Try.pinned (OpenSpec.ofChange arenaOnceSpec)

/-- ITS FALSE NEIGHBOUR: 'it returns false'. Refute it at one input. -/
def arenaOnceWrong : ChangeSpec := { name := "arenaOnce", fn := fun _ => fun
  | [d1, d2] => { results := [.lit (.bool false)], args := [d1, d2] }
  | _ => none }
def ArenaOnceWrongFalsely : Prop := arenaOnceRow.holds Try.pinned (OpenSpec.ofChange arenaOnceWrong)

/- THE SECOND FORM. 'bulk': how many values and letters a reading holds, each counted each time it is reached (what is shared counts as often as it is met; a slice's spare places count too). A statement '..UptoSaid' is the law's where the arguments, and the package variables that the reading takes, are together of bulk at most 1048576: NARROWER than '..Said'. Prove '..Said' where nothing that the law and all that it calls make is longer than what came in: it says more and counts as full. Else prove '..UptoSaid'. A law counts once. -/
mutual
def uptoBulk {H : Type} : DataW H → Nat
  | .lit (.string bytes) => bytes.length + 1
  | .lit _ => 1
  | .nil => 1
  | .ptr d => uptoBulk d + 1
  | .slice elems spare => uptoBulkAll elems + uptoBulkAll spare + 1
  | .agg parts => uptoBulkAll parts + 1
  | .iface _ d => uptoBulk d + 1
  | .map entries => uptoBulkEntries entries + 1
  | .held _ => 1
def uptoBulkAll {H : Type} : List (DataW H) → Nat
  | [] => 0
  | d :: r => uptoBulk d + uptoBulkAll r
def uptoBulkEntries {H : Type} : List (Lit × DataW H) → Nat
  | [] => 0
  | x :: r => uptoBulkEntry x + uptoBulkEntries r
def uptoBulkEntry {H : Type} : Lit × DataW H → Nat
  | (.string bytes, d) => bytes.length + uptoBulk d + 1
  | (_, d) => uptoBulk d + 1
 end
def uptoSmall : (H : Type) → List (DataW H) → Bool := fun _ ds => decide (uptoBulkAll ds ≤ 1048576)
def OpenSpec.upto (s : _root_.Go.ChangeSpec) : _root_.Go.OpenSpec := { _root_.Go.OpenSpec.ofChange s with cond := some uptoSmall }

/-- 'wakemanlaw17.ArenaStack', WHERE WHAT IT READS IS OF BULK AT MOST 1048576: true; the input reads as it did. -/
def arenaStackUptoRow : OpenClaim := { program := "ytokmjjjedljcpaa", sum := "b344f5ec5d84320df61feabb45dce941a22c835fbbbc18fffa32bbe46f54f165", func := "wakeman/wakemanlaw17.ArenaStack", spec := "arenaStack", apart := false, narrowed := true }
def ArenaStackUptoSaid : Prop := arenaStackUptoRow.holds Try.pinned (OpenSpec.upto arenaStackSpec)

/-- 'wakemanlaw17.ArenaUses', WHERE WHAT IT READS IS OF BULK AT MOST 1048576: true; the input reads as it did. -/
def arenaUsesUptoRow : OpenClaim := { program := "ytokmjjjedljcpaa", sum := "b344f5ec5d84320df61feabb45dce941a22c835fbbbc18fffa32bbe46f54f165", func := "wakeman/wakemanlaw17.ArenaUses", spec := "arenaUses", apart := false, narrowed := true }
def ArenaUsesUptoSaid : Prop := arenaUsesUptoRow.holds Try.pinned (OpenSpec.upto arenaUsesSpec)

/-- 'wakemanlaw17.ArenaFull', WHERE WHAT IT READS IS OF BULK AT MOST 1048576: true; the input reads as it did. -/
def arenaFullUptoRow : OpenClaim := { program := "ytokmjjjedljcpaa", sum := "b344f5ec5d84320df61feabb45dce941a22c835fbbbc18fffa32bbe46f54f165", func := "wakeman/wakemanlaw17.ArenaFull", spec := "arenaFull", unfollowed := true, recurses := true, apart := false, narrowed := true }
def ArenaFullUptoSaid : Prop := arenaFullUptoRow.holds Try.pinned (OpenSpec.upto arenaFullSpec)

/-- 'wakemanlaw17.ArenaNews', WHERE WHAT IT READS IS OF BULK AT MOST 1048576: true; the input reads as it did. -/
def arenaNewsUptoRow : OpenClaim := { program := "ytokmjjjedljcpaa", sum := "b344f5ec5d84320df61feabb45dce941a22c835fbbbc18fffa32bbe46f54f165", func := "wakeman/wakemanlaw17.ArenaNews", spec := "arenaNews", unfollowed := true, recurses := true, apart := false, narrowed := true }
def ArenaNewsUptoSaid : Prop := arenaNewsUptoRow.holds Try.pinned (OpenSpec.upto arenaNewsSpec)

/-- 'wakemanlaw17.ArenaPlays', WHERE WHAT IT READS IS OF BULK AT MOST 1048576: true; the input reads as it did. -/
def arenaPlaysUptoRow : OpenClaim := { program := "ytokmjjjedljcpaa", sum := "b344f5ec5d84320df61feabb45dce941a22c835fbbbc18fffa32bbe46f54f165", func := "wakeman/wakemanlaw17.ArenaPlays", spec := "arenaPlays", unfollowed := true, recurses := true, apart := false, narrowed := true }
def ArenaPlaysUptoSaid : Prop := arenaPlaysUptoRow.holds Try.pinned (OpenSpec.upto arenaPlaysSpec)

/-- 'wakemanlaw17.ArenaCopies', WHERE WHAT IT READS IS OF BULK AT MOST 1048576: true; the input reads as it did. -/
def arenaCopiesUptoRow : OpenClaim := { program := "ytokmjjjedljcpaa", sum := "b344f5ec5d84320df61feabb45dce941a22c835fbbbc18fffa32bbe46f54f165", func := "wakeman/wakemanlaw17.ArenaCopies", spec := "arenaCopies", unfollowed := true, recurses := true, apart := false, narrowed := true }
def ArenaCopiesUptoSaid : Prop := arenaCopiesUptoRow.holds Try.pinned (OpenSpec.upto arenaCopiesSpec)

/-- 'wakemanlaw17.ArenaOnce', WHERE WHAT IT READS IS OF BULK AT MOST 1048576: true; the input reads as it did. -/
def arenaOnceUptoRow : OpenClaim := { program := "ytokmjjjedljcpaa", sum := "b344f5ec5d84320df61feabb45dce941a22c835fbbbc18fffa32bbe46f54f165", func := "wakeman/wakemanlaw17.ArenaOnce", spec := "arenaOnce", unfollowed := true, recurses := true, apart := false, narrowed := true }
def ArenaOnceUptoSaid : Prop := arenaOnceUptoRow.holds Try.pinned (OpenSpec.upto arenaOnceSpec)

end Rows
end Go.Proofs.Ytokmjjjedljcpaa

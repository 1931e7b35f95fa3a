/-
  NARROWER THAN 'FOR EVERY INPUT', by the rows' own cells (each row's printed sentence says how): WheelFar: laid · WheelFires: laid · WheelNext: laid · WheelList: laid · WheelSteps: laid · WheelKeeps: laid · WheelCopies: laid · WheelPlays: laid · WheelNil: laid · WheelCancels: laid.
  DERIVED. THE GIVEN ROWS OF THIS SEAT. 10 by the template 'for every input the law returns true; each argument reads behind the call as it read before'; 0 by the template 'total and deterministic' (their statements: YtjlcchjcppkbjaaDoorTotals.lean).
  GIVEN WITH THE SEED: the statements are not yours to turn. If you find one false, say at which input.
  Laid BY PROGRAM, IN A SANDBOX (cutbox-rows.mjs): the forced cells as the released guide's own fill.sh prints them over the translation fac00305d7280980… (all of the seat's roots in one cut). By AI agents, Wed Nov 11 2026. No macro, syntax, notation, axiom, sorry.
-/
import Derived.Test.YtjlcchjcppkbjaaDoorChecked
import GoSem.Claim
import GoSem.ClaimJoined
import GoSem.ClaimMapViews
import Derived.JoinedTies
import Derived.KernelRfl
namespace Go.Proofs.YtjlcchjcppkbjaaDoor
/- THE CELL 'sum', in the pinned program and in every row, IS THE sha256 OF THE DUMP (.gsa) THAT YtjlcchjcppkbjaaDoorProg.lean LOADS. Nothing in Lean hashes anything: it is a label: what it is worth is what the hold of that sum in a sandbox is worth. -/
noncomputable def Tryd.pinned : Pinned := { name := "ytjlcchjcppkbjaadoor", sum := "fac00305d728098045a396ff318705c5eabb1ea0646f9669b61e019225816836", checked := Tryd.checked }
namespace Rows
def none {H : Type} : Left H := { results := [], args := [] }

/- WHAT THE LISTED PACKAGE-LEVEL VARIABLES READ AS WHEN THE CALL BEGINS. Each datum BY PROGRAM (the guide's laid-datum.mjs) off the statement by which the dump's own 'gosem.cut.vars' lays the variable. In a bare row this is a premise. The card (YtjlcchjcppkbjaaDoorCards.lean) ties it to the program's text. -/
def laid_math_bits_deBruijn64tab {H : Type} : DataW H := .agg [.lit (.int .u8 0), .lit (.int .u8 1), .lit (.int .u8 56), .lit (.int .u8 2), .lit (.int .u8 57), .lit (.int .u8 49), .lit (.int .u8 28), .lit (.int .u8 3), .lit (.int .u8 61), .lit (.int .u8 58), .lit (.int .u8 42), .lit (.int .u8 50), .lit (.int .u8 38), .lit (.int .u8 29), .lit (.int .u8 17), .lit (.int .u8 4), .lit (.int .u8 62), .lit (.int .u8 47), .lit (.int .u8 59), .lit (.int .u8 36), .lit (.int .u8 45), .lit (.int .u8 43), .lit (.int .u8 51), .lit (.int .u8 22), .lit (.int .u8 53), .lit (.int .u8 39), .lit (.int .u8 33), .lit (.int .u8 30), .lit (.int .u8 24), .lit (.int .u8 18), .lit (.int .u8 12), .lit (.int .u8 5), .lit (.int .u8 63), .lit (.int .u8 55), .lit (.int .u8 48), .lit (.int .u8 27), .lit (.int .u8 60), .lit (.int .u8 41), .lit (.int .u8 37), .lit (.int .u8 16), .lit (.int .u8 46), .lit (.int .u8 35), .lit (.int .u8 44), .lit (.int .u8 21), .lit (.int .u8 52), .lit (.int .u8 32), .lit (.int .u8 23), .lit (.int .u8 11), .lit (.int .u8 54), .lit (.int .u8 26), .lit (.int .u8 40), .lit (.int .u8 15), .lit (.int .u8 34), .lit (.int .u8 20), .lit (.int .u8 31), .lit (.int .u8 10), .lit (.int .u8 25), .lit (.int .u8 14), .lit (.int .u8 19), .lit (.int .u8 9), .lit (.int .u8 13), .lit (.int .u8 8), .lit (.int .u8 7), .lit (.int .u8 6)]

/-- 'wakemanlaw18.WheelFar': WHATEVER THE INPUT: true; the input reads as it did. -/
def wheelFarSpec : ChangeSpec := { name := "wheelFar", fn := fun _ => fun
  | [d1, d2] => { results := [.lit (.bool true)], args := [d1, d2] }
  | _ => none }
def wheelFarRow : OpenClaim := { program := "ytjlcchjcppkbjaadoor", sum := "fac00305d728098045a396ff318705c5eabb1ea0646f9669b61e019225816836", func := "wakeman/wakemanlaw18.WheelFar", spec := "wheelFar", unfollowed := true, recurses := true, named := ["math/bits.deBruijn64tab"], apart := false, laid := [("math/bits.deBruijn64tab", laid_math_bits_deBruijn64tab)] }
def WheelFarSaid : Prop := wheelFarRow.holds Tryd.pinned (OpenSpec.ofChange wheelFarSpec)

/-- ITS FALSE NEIGHBOUR: 'it returns false'. Refute it at one input. -/
def wheelFarWrong : ChangeSpec := { name := "wheelFar", fn := fun _ => fun
  | [d1, d2] => { results := [.lit (.bool false)], args := [d1, d2] }
  | _ => none }
def WheelFarWrongFalsely : Prop := wheelFarRow.holds Tryd.pinned (OpenSpec.ofChange wheelFarWrong)

/-- 'wakemanlaw18.WheelFires': WHATEVER THE INPUT: true; the input reads as it did. -/
def wheelFiresSpec : ChangeSpec := { name := "wheelFires", fn := fun _ => fun
  | [d1, d2, d3] => { results := [.lit (.bool true)], args := [d1, d2, d3] }
  | _ => none }
def wheelFiresRow : OpenClaim := { program := "ytjlcchjcppkbjaadoor", sum := "fac00305d728098045a396ff318705c5eabb1ea0646f9669b61e019225816836", func := "wakeman/wakemanlaw18.WheelFires", spec := "wheelFires", unfollowed := true, recurses := true, named := ["math/bits.deBruijn64tab"], apart := false, laid := [("math/bits.deBruijn64tab", laid_math_bits_deBruijn64tab)] }
def WheelFiresSaid : Prop := wheelFiresRow.holds Tryd.pinned (OpenSpec.ofChange wheelFiresSpec)

/-- ITS FALSE NEIGHBOUR: 'it returns false'. Refute it at one input. -/
def wheelFiresWrong : ChangeSpec := { name := "wheelFires", fn := fun _ => fun
  | [d1, d2, d3] => { results := [.lit (.bool false)], args := [d1, d2, d3] }
  | _ => none }
def WheelFiresWrongFalsely : Prop := wheelFiresRow.holds Tryd.pinned (OpenSpec.ofChange wheelFiresWrong)

/-- 'wakemanlaw18.WheelNext': WHATEVER THE INPUT: true; the input reads as it did. -/
def wheelNextSpec : ChangeSpec := { name := "wheelNext", fn := fun _ => fun
  | [d1, d2] => { results := [.lit (.bool true)], args := [d1, d2] }
  | _ => none }
def wheelNextRow : OpenClaim := { program := "ytjlcchjcppkbjaadoor", sum := "fac00305d728098045a396ff318705c5eabb1ea0646f9669b61e019225816836", func := "wakeman/wakemanlaw18.WheelNext", spec := "wheelNext", unfollowed := true, recurses := true, named := ["math/bits.deBruijn64tab"], apart := false, laid := [("math/bits.deBruijn64tab", laid_math_bits_deBruijn64tab)] }
def WheelNextSaid : Prop := wheelNextRow.holds Tryd.pinned (OpenSpec.ofChange wheelNextSpec)

/-- ITS FALSE NEIGHBOUR: 'it returns false'. Refute it at one input. -/
def wheelNextWrong : ChangeSpec := { name := "wheelNext", fn := fun _ => fun
  | [d1, d2] => { results := [.lit (.bool false)], args := [d1, d2] }
  | _ => none }
def WheelNextWrongFalsely : Prop := wheelNextRow.holds Tryd.pinned (OpenSpec.ofChange wheelNextWrong)

/-- 'wakemanlaw18.WheelList': WHATEVER THE INPUT: true; the input reads as it did. -/
def wheelListSpec : ChangeSpec := { name := "wheelList", fn := fun _ => fun
  | [d1, d2] => { results := [.lit (.bool true)], args := [d1, d2] }
  | _ => none }
def wheelListRow : OpenClaim := { program := "ytjlcchjcppkbjaadoor", sum := "fac00305d728098045a396ff318705c5eabb1ea0646f9669b61e019225816836", func := "wakeman/wakemanlaw18.WheelList", spec := "wheelList", unfollowed := true, recurses := true, named := ["math/bits.deBruijn64tab"], apart := false, laid := [("math/bits.deBruijn64tab", laid_math_bits_deBruijn64tab)] }
def WheelListSaid : Prop := wheelListRow.holds Tryd.pinned (OpenSpec.ofChange wheelListSpec)

/-- ITS FALSE NEIGHBOUR: 'it returns false'. Refute it at one input. -/
def wheelListWrong : ChangeSpec := { name := "wheelList", fn := fun _ => fun
  | [d1, d2] => { results := [.lit (.bool false)], args := [d1, d2] }
  | _ => none }
def WheelListWrongFalsely : Prop := wheelListRow.holds Tryd.pinned (OpenSpec.ofChange wheelListWrong)

/-- 'wakemanlaw18.WheelSteps': WHATEVER THE INPUT: true; the input reads as it did. -/
def wheelStepsSpec : ChangeSpec := { name := "wheelSteps", fn := fun _ => fun
  | [d1, d2, d3] => { results := [.lit (.bool true)], args := [d1, d2, d3] }
  | _ => none }
def wheelStepsRow : OpenClaim := { program := "ytjlcchjcppkbjaadoor", sum := "fac00305d728098045a396ff318705c5eabb1ea0646f9669b61e019225816836", func := "wakeman/wakemanlaw18.WheelSteps", spec := "wheelSteps", unfollowed := true, recurses := true, named := ["math/bits.deBruijn64tab"], apart := false, laid := [("math/bits.deBruijn64tab", laid_math_bits_deBruijn64tab)] }
def WheelStepsSaid : Prop := wheelStepsRow.holds Tryd.pinned (OpenSpec.ofChange wheelStepsSpec)

/-- ITS FALSE NEIGHBOUR: 'it returns false'. Refute it at one input. -/
def wheelStepsWrong : ChangeSpec := { name := "wheelSteps", fn := fun _ => fun
  | [d1, d2, d3] => { results := [.lit (.bool false)], args := [d1, d2, d3] }
  | _ => none }
def WheelStepsWrongFalsely : Prop := wheelStepsRow.holds Tryd.pinned (OpenSpec.ofChange wheelStepsWrong)

/-- 'wakemanlaw18.WheelKeeps': WHATEVER THE INPUT: true; the input reads as it did. -/
def wheelKeepsSpec : ChangeSpec := { name := "wheelKeeps", fn := fun _ => fun
  | [d1, d2, d3] => { results := [.lit (.bool true)], args := [d1, d2, d3] }
  | _ => none }
def wheelKeepsRow : OpenClaim := { program := "ytjlcchjcppkbjaadoor", sum := "fac00305d728098045a396ff318705c5eabb1ea0646f9669b61e019225816836", func := "wakeman/wakemanlaw18.WheelKeeps", spec := "wheelKeeps", unfollowed := true, recurses := true, named := ["math/bits.deBruijn64tab"], apart := false, laid := [("math/bits.deBruijn64tab", laid_math_bits_deBruijn64tab)] }
def WheelKeepsSaid : Prop := wheelKeepsRow.holds Tryd.pinned (OpenSpec.ofChange wheelKeepsSpec)

/-- ITS FALSE NEIGHBOUR: 'it returns false'. Refute it at one input. -/
def wheelKeepsWrong : ChangeSpec := { name := "wheelKeeps", fn := fun _ => fun
  | [d1, d2, d3] => { results := [.lit (.bool false)], args := [d1, d2, d3] }
  | _ => none }
def WheelKeepsWrongFalsely : Prop := wheelKeepsRow.holds Tryd.pinned (OpenSpec.ofChange wheelKeepsWrong)

/-- 'wakemanlaw18.WheelCopies': WHATEVER THE INPUT: true; the input reads as it did. -/
def wheelCopiesSpec : ChangeSpec := { name := "wheelCopies", fn := fun _ => fun
  | [d1, d2, d3] => { results := [.lit (.bool true)], args := [d1, d2, d3] }
  | _ => none }
def wheelCopiesRow : OpenClaim := { program := "ytjlcchjcppkbjaadoor", sum := "fac00305d728098045a396ff318705c5eabb1ea0646f9669b61e019225816836", func := "wakeman/wakemanlaw18.WheelCopies", spec := "wheelCopies", unfollowed := true, recurses := true, named := ["math/bits.deBruijn64tab"], apart := false, laid := [("math/bits.deBruijn64tab", laid_math_bits_deBruijn64tab)] }
def WheelCopiesSaid : Prop := wheelCopiesRow.holds Tryd.pinned (OpenSpec.ofChange wheelCopiesSpec)

/-- ITS FALSE NEIGHBOUR: 'it returns false'. Refute it at one input. -/
def wheelCopiesWrong : ChangeSpec := { name := "wheelCopies", fn := fun _ => fun
  | [d1, d2, d3] => { results := [.lit (.bool false)], args := [d1, d2, d3] }
  | _ => none }
def WheelCopiesWrongFalsely : Prop := wheelCopiesRow.holds Tryd.pinned (OpenSpec.ofChange wheelCopiesWrong)

/-- 'wakemanlaw18.WheelPlays': WHATEVER THE INPUT: true; the input reads as it did. -/
def wheelPlaysSpec : ChangeSpec := { name := "wheelPlays", fn := fun _ => fun
  | [d1, d2, d3] => { results := [.lit (.bool true)], args := [d1, d2, d3] }
  | _ => none }
def wheelPlaysRow : OpenClaim := { program := "ytjlcchjcppkbjaadoor", sum := "fac00305d728098045a396ff318705c5eabb1ea0646f9669b61e019225816836", func := "wakeman/wakemanlaw18.WheelPlays", spec := "wheelPlays", unfollowed := true, recurses := true, named := ["math/bits.deBruijn64tab"], apart := false, laid := [("math/bits.deBruijn64tab", laid_math_bits_deBruijn64tab)] }
def WheelPlaysSaid : Prop := wheelPlaysRow.holds Tryd.pinned (OpenSpec.ofChange wheelPlaysSpec)

/-- ITS FALSE NEIGHBOUR: 'it returns false'. Refute it at one input. -/
def wheelPlaysWrong : ChangeSpec := { name := "wheelPlays", fn := fun _ => fun
  | [d1, d2, d3] => { results := [.lit (.bool false)], args := [d1, d2, d3] }
  | _ => none }
def WheelPlaysWrongFalsely : Prop := wheelPlaysRow.holds Tryd.pinned (OpenSpec.ofChange wheelPlaysWrong)

/-- 'wakemanlaw18.WheelNil': WHATEVER THE INPUT: true; the input reads as it did. -/
def wheelNilSpec : ChangeSpec := { name := "wheelNil", fn := fun _ => fun
  | [d] => { results := [.lit (.bool true)], args := [d] }
  | _ => none }
def wheelNilRow : OpenClaim := { program := "ytjlcchjcppkbjaadoor", sum := "fac00305d728098045a396ff318705c5eabb1ea0646f9669b61e019225816836", func := "wakeman/wakemanlaw18.WheelNil", spec := "wheelNil", unfollowed := true, recurses := true, named := ["math/bits.deBruijn64tab"], apart := false, laid := [("math/bits.deBruijn64tab", laid_math_bits_deBruijn64tab)] }
def WheelNilSaid : Prop := wheelNilRow.holds Tryd.pinned (OpenSpec.ofChange wheelNilSpec)

/-- ITS FALSE NEIGHBOUR: 'it returns false'. Refute it at one input. -/
def wheelNilWrong : ChangeSpec := { name := "wheelNil", fn := fun _ => fun
  | [d] => { results := [.lit (.bool false)], args := [d] }
  | _ => none }
def WheelNilWrongFalsely : Prop := wheelNilRow.holds Tryd.pinned (OpenSpec.ofChange wheelNilWrong)

/-- 'wakemanlaw18.WheelCancels': WHATEVER THE INPUT: true; the input reads as it did. -/
def wheelCancelsSpec : ChangeSpec := { name := "wheelCancels", fn := fun _ => fun
  | [d1, d2, d3, d4] => { results := [.lit (.bool true)], args := [d1, d2, d3, d4] }
  | _ => none }
def wheelCancelsRow : OpenClaim := { program := "ytjlcchjcppkbjaadoor", sum := "fac00305d728098045a396ff318705c5eabb1ea0646f9669b61e019225816836", func := "wakeman/wakemanlaw18.WheelCancels", spec := "wheelCancels", unfollowed := true, recurses := true, named := ["math/bits.deBruijn64tab"], apart := false, laid := [("math/bits.deBruijn64tab", laid_math_bits_deBruijn64tab)] }
def WheelCancelsSaid : Prop := wheelCancelsRow.holds Tryd.pinned (OpenSpec.ofChange wheelCancelsSpec)

/-- ITS FALSE NEIGHBOUR: 'it returns false'. Refute it at one input. -/
def wheelCancelsWrong : ChangeSpec := { name := "wheelCancels", fn := fun _ => fun
  | [d1, d2, d3, d4] => { results := [.lit (.bool false)], args := [d1, d2, d3, d4] }
  | _ => none }
def WheelCancelsWrongFalsely : Prop := wheelCancelsRow.holds Tryd.pinned (OpenSpec.ofChange wheelCancelsWrong)

/- THE SECOND FORM. 'bulk': how many values and letters a reading holds, each counted each time it is reached (what is shared counts as often as it is met; a slice's spare places count too). A statement '..UptoSaid' is the law's where the arguments, and the package variables that the reading takes, are together of bulk at most 1048576: NARROWER than '..Said'. Prove '..Said' where nothing that the law and all that it calls make is longer than what came in: it says more and counts as full. Else prove '..UptoSaid'. A law counts once. -/
mutual
def uptoBulk {H : Type} : DataW H → Nat
  | .lit (.string bytes) => bytes.length + 1
  | .lit _ => 1
  | .nil => 1
  | .ptr d => uptoBulk d + 1
  | .slice elems spare => uptoBulkAll elems + uptoBulkAll spare + 1
  | .agg parts => uptoBulkAll parts + 1
  | .iface _ d => uptoBulk d + 1
  | .map entries => uptoBulkEntries entries + 1
  | .held _ => 1
def uptoBulkAll {H : Type} : List (DataW H) → Nat
  | [] => 0
  | d :: r => uptoBulk d + uptoBulkAll r
def uptoBulkEntries {H : Type} : List (Lit × DataW H) → Nat
  | [] => 0
  | x :: r => uptoBulkEntry x + uptoBulkEntries r
def uptoBulkEntry {H : Type} : Lit × DataW H → Nat
  | (.string bytes, d) => bytes.length + uptoBulk d + 1
  | (_, d) => uptoBulk d + 1
 end
def uptoSmall : (H : Type) → List (DataW H) → Bool := fun _ ds => decide (uptoBulkAll ds ≤ 1048576)
def OpenSpec.upto (s : _root_.Go.ChangeSpec) : _root_.Go.OpenSpec := { _root_.Go.OpenSpec.ofChange s with cond := some uptoSmall }

/-- 'wakemanlaw18.WheelFar', WHERE WHAT IT READS IS OF BULK AT MOST 1048576: true; the input reads as it did. -/
def wheelFarUptoRow : OpenClaim := { program := "ytjlcchjcppkbjaadoor", sum := "fac00305d728098045a396ff318705c5eabb1ea0646f9669b61e019225816836", func := "wakeman/wakemanlaw18.WheelFar", spec := "wheelFar", unfollowed := true, recurses := true, named := ["math/bits.deBruijn64tab"], apart := false, laid := [("math/bits.deBruijn64tab", laid_math_bits_deBruijn64tab)], narrowed := true }
def WheelFarUptoSaid : Prop := wheelFarUptoRow.holds Tryd.pinned (OpenSpec.upto wheelFarSpec)

/-- 'wakemanlaw18.WheelFires', WHERE WHAT IT READS IS OF BULK AT MOST 1048576: true; the input reads as it did. -/
def wheelFiresUptoRow : OpenClaim := { program := "ytjlcchjcppkbjaadoor", sum := "fac00305d728098045a396ff318705c5eabb1ea0646f9669b61e019225816836", func := "wakeman/wakemanlaw18.WheelFires", spec := "wheelFires", unfollowed := true, recurses := true, named := ["math/bits.deBruijn64tab"], apart := false, laid := [("math/bits.deBruijn64tab", laid_math_bits_deBruijn64tab)], narrowed := true }
def WheelFiresUptoSaid : Prop := wheelFiresUptoRow.holds Tryd.pinned (OpenSpec.upto wheelFiresSpec)

/-- 'wakemanlaw18.WheelNext', WHERE WHAT IT READS IS OF BULK AT MOST 1048576: true; the input reads as it did. -/
def wheelNextUptoRow : OpenClaim := { program := "ytjlcchjcppkbjaadoor", sum := "fac00305d728098045a396ff318705c5eabb1ea0646f9669b61e019225816836", func := "wakeman/wakemanlaw18.WheelNext", spec := "wheelNext", unfollowed := true, recurses := true, named := ["math/bits.deBruijn64tab"], apart := false, laid := [("math/bits.deBruijn64tab", laid_math_bits_deBruijn64tab)], narrowed := true }
def WheelNextUptoSaid : Prop := wheelNextUptoRow.holds Tryd.pinned (OpenSpec.upto wheelNextSpec)

/-- 'wakemanlaw18.WheelList', WHERE WHAT IT READS IS OF BULK AT MOST 1048576: true; the input reads as it did. -/
def wheelListUptoRow : OpenClaim := { program := "ytjlcchjcppkbjaadoor", sum := "fac00305d728098045a396ff318705c5eabb1ea0646f9669b61e019225816836", func := "wakeman/wakemanlaw18.WheelList", spec := "wheelList", unfollowed := true, recurses := true, named := ["math/bits.deBruijn64tab"], apart := false, laid := [("math/bits.deBruijn64tab", laid_math_bits_deBruijn64tab)], narrowed := true }
def WheelListUptoSaid : Prop := wheelListUptoRow.holds Tryd.pinned (OpenSpec.upto wheelListSpec)

/-- 'wakemanlaw18.WheelSteps', WHERE WHAT IT READS IS OF BULK AT MOST 1048576: true; the input reads as it did. -/
def wheelStepsUptoRow : OpenClaim := { program := "ytjlcchjcppkbjaadoor", sum := "fac00305d728098045a396ff318705c5eabb1ea0646f9669b61e019225816836", func := "wakeman/wakemanlaw18.WheelSteps", spec := "wheelSteps", unfollowed := true, recurses := true, named := ["math/bits.deBruijn64tab"], apart := false, laid := [("math/bits.deBruijn64tab", laid_math_bits_deBruijn64tab)], narrowed := true }
def WheelStepsUptoSaid : Prop := wheelStepsUptoRow.holds Tryd.pinned (OpenSpec.upto wheelStepsSpec)

/-- 'wakemanlaw18.WheelKeeps', WHERE WHAT IT READS IS OF BULK AT MOST 1048576: true; the input reads as it did. -/
def wheelKeepsUptoRow : OpenClaim := { program := "ytjlcchjcppkbjaadoor", sum := "fac00305d728098045a396ff318705c5eabb1ea0646f9669b61e019225816836", func := "wakeman/wakemanlaw18.WheelKeeps", spec := "wheelKeeps", unfollowed := true, recurses := true, named := ["math/bits.deBruijn64tab"], apart := false, laid := [("math/bits.deBruijn64tab", laid_math_bits_deBruijn64tab)], narrowed := true }
def WheelKeepsUptoSaid : Prop := wheelKeepsUptoRow.holds Tryd.pinned (OpenSpec.upto wheelKeepsSpec)

/-- 'wakemanlaw18.WheelCopies', WHERE WHAT IT READS IS OF BULK AT MOST 1048576: true; the input reads as it did. -/
def wheelCopiesUptoRow : OpenClaim := { program := "ytjlcchjcppkbjaadoor", sum := "fac00305d728098045a396ff318705c5eabb1ea0646f9669b61e019225816836", func := "wakeman/wakemanlaw18.WheelCopies", spec := "wheelCopies", unfollowed := true, recurses := true, named := ["math/bits.deBruijn64tab"], apart := false, laid := [("math/bits.deBruijn64tab", laid_math_bits_deBruijn64tab)], narrowed := true }
def WheelCopiesUptoSaid : Prop := wheelCopiesUptoRow.holds Tryd.pinned (OpenSpec.upto wheelCopiesSpec)

/-- 'wakemanlaw18.WheelPlays', WHERE WHAT IT READS IS OF BULK AT MOST 1048576: true; the input reads as it did. -/
def wheelPlaysUptoRow : OpenClaim := { program := "ytjlcchjcppkbjaadoor", sum := "fac00305d728098045a396ff318705c5eabb1ea0646f9669b61e019225816836", func := "wakeman/wakemanlaw18.WheelPlays", spec := "wheelPlays", unfollowed := true, recurses := true, named := ["math/bits.deBruijn64tab"], apart := false, laid := [("math/bits.deBruijn64tab", laid_math_bits_deBruijn64tab)], narrowed := true }
def WheelPlaysUptoSaid : Prop := wheelPlaysUptoRow.holds Tryd.pinned (OpenSpec.upto wheelPlaysSpec)

/-- 'wakemanlaw18.WheelNil', WHERE WHAT IT READS IS OF BULK AT MOST 1048576: true; the input reads as it did. -/
def wheelNilUptoRow : OpenClaim := { program := "ytjlcchjcppkbjaadoor", sum := "fac00305d728098045a396ff318705c5eabb1ea0646f9669b61e019225816836", func := "wakeman/wakemanlaw18.WheelNil", spec := "wheelNil", unfollowed := true, recurses := true, named := ["math/bits.deBruijn64tab"], apart := false, laid := [("math/bits.deBruijn64tab", laid_math_bits_deBruijn64tab)], narrowed := true }
def WheelNilUptoSaid : Prop := wheelNilUptoRow.holds Tryd.pinned (OpenSpec.upto wheelNilSpec)

/-- 'wakemanlaw18.WheelCancels', WHERE WHAT IT READS IS OF BULK AT MOST 1048576: true; the input reads as it did. -/
def wheelCancelsUptoRow : OpenClaim := { program := "ytjlcchjcppkbjaadoor", sum := "fac00305d728098045a396ff318705c5eabb1ea0646f9669b61e019225816836", func := "wakeman/wakemanlaw18.WheelCancels", spec := "wheelCancels", unfollowed := true, recurses := true, named := ["math/bits.deBruijn64tab"], apart := false, laid := [("math/bits.deBruijn64tab", laid_math_bits_deBruijn64tab)], narrowed := true }
def WheelCancelsUptoSaid : Prop := wheelCancelsUptoRow.holds Tryd.pinned (OpenSpec.upto wheelCancelsSpec)

end Rows
end Go.Proofs.YtjlcchjcppkbjaaDoor

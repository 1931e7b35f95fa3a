/-
  No cell of these rows narrows 'for every input' (looked for: loops, veiled, ifaces, maps, wideKeys, modest, calm, conditions, laid).
  DERIVED. THE GIVEN ROWS OF THIS SEAT. 9 by the template 'for every input the law returns true; each argument reads behind the call as it read before'; 0 by the template 'total and deterministic' (their statements: YtaedijppbghnaaaTotals.lean).
  GIVEN WITH THE SEED: the statements are not yours to turn. If you find one false, say at which input.
  Laid BY PROGRAM, IN A SANDBOX (cutbox-rows.mjs): the forced cells as the released guide's own fill.sh prints them over the translation 3b6ee90a0b3783e2… (all of the seat's roots in one cut). By AI agents, Wed Nov 11 2026. No macro, syntax, notation, axiom, sorry.
-/
import Derived.Test.YtaedijppbghnaaaChecked
import GoSem.Claim
import GoSem.ClaimJoined
import GoSem.ClaimMapViews
import Derived.JoinedTies
import Derived.KernelRfl
namespace Go.Proofs.Ytaedijppbghnaaa
/- THE CELL 'sum', in the pinned program and in every row, IS THE sha256 OF THE DUMP (.gsa) THAT YtaedijppbghnaaaProg.lean LOADS. Nothing in Lean hashes anything: it is a label: what it is worth is what the hold of that sum in a sandbox is worth. -/
noncomputable def Try.pinned : Pinned := { name := "ytaedijppbghnaaa", sum := "3b6ee90a0b3783e2cd709c316afad38b07a9b57cf2168163a9142976f2ff9db4", checked := Try.checked }
namespace Rows
def none {H : Type} : Left H := { results := [], args := [] }

/-- 'wakemanlaw11.BlackoutSums': WHATEVER THE INPUT: true; the input reads as it did. -/
def blackoutSumsSpec : ChangeSpec := { name := "blackoutSums", fn := fun _ => fun
  | [d1, d2, d3, d4, d5] => { results := [.lit (.bool true)], args := [d1, d2, d3, d4, d5] }
  | _ => none }
def blackoutSumsRow : OpenClaim := { program := "ytaedijppbghnaaa", sum := "3b6ee90a0b3783e2cd709c316afad38b07a9b57cf2168163a9142976f2ff9db4", func := "wakeman/wakemanlaw11.BlackoutSums", spec := "blackoutSums", unfollowed := true, recurses := true, apart := false }
def BlackoutSumsSaid : Prop := blackoutSumsRow.holds Try.pinned (OpenSpec.ofChange blackoutSumsSpec)

/-- ITS FALSE NEIGHBOUR: 'it returns false'. Refute it at one input. -/
def blackoutSumsWrong : ChangeSpec := { name := "blackoutSums", fn := fun _ => fun
  | [d1, d2, d3, d4, d5] => { results := [.lit (.bool false)], args := [d1, d2, d3, d4, d5] }
  | _ => none }
def BlackoutSumsWrongFalsely : Prop := blackoutSumsRow.holds Try.pinned (OpenSpec.ofChange blackoutSumsWrong)

/-- 'wakemanlaw11.BlackoutLengths': WHATEVER THE INPUT: true; the input reads as it did. -/
def blackoutLengthsSpec : ChangeSpec := { name := "blackoutLengths", fn := fun _ => fun
  | [d1, d2, d3] => { results := [.lit (.bool true)], args := [d1, d2, d3] }
  | _ => none }
def blackoutLengthsRow : OpenClaim := { program := "ytaedijppbghnaaa", sum := "3b6ee90a0b3783e2cd709c316afad38b07a9b57cf2168163a9142976f2ff9db4", func := "wakeman/wakemanlaw11.BlackoutLengths", spec := "blackoutLengths", unfollowed := true, recurses := true, apart := false }
def BlackoutLengthsSaid : Prop := blackoutLengthsRow.holds Try.pinned (OpenSpec.ofChange blackoutLengthsSpec)

/-- ITS FALSE NEIGHBOUR: 'it returns false'. Refute it at one input. -/
def blackoutLengthsWrong : ChangeSpec := { name := "blackoutLengths", fn := fun _ => fun
  | [d1, d2, d3] => { results := [.lit (.bool false)], args := [d1, d2, d3] }
  | _ => none }
def BlackoutLengthsWrongFalsely : Prop := blackoutLengthsRow.holds Try.pinned (OpenSpec.ofChange blackoutLengthsWrong)

/-- 'wakemanlaw11.BlackoutFree': WHATEVER THE INPUT: true; the input reads as it did. -/
def blackoutFreeSpec : ChangeSpec := { name := "blackoutFree", fn := fun _ => fun
  | [d1, d2] => { results := [.lit (.bool true)], args := [d1, d2] }
  | _ => none }
def blackoutFreeRow : OpenClaim := { program := "ytaedijppbghnaaa", sum := "3b6ee90a0b3783e2cd709c316afad38b07a9b57cf2168163a9142976f2ff9db4", func := "wakeman/wakemanlaw11.BlackoutFree", spec := "blackoutFree", unfollowed := true, recurses := true, apart := false }
def BlackoutFreeSaid : Prop := blackoutFreeRow.holds Try.pinned (OpenSpec.ofChange blackoutFreeSpec)

/-- ITS FALSE NEIGHBOUR: 'it returns false'. Refute it at one input. -/
def blackoutFreeWrong : ChangeSpec := { name := "blackoutFree", fn := fun _ => fun
  | [d1, d2] => { results := [.lit (.bool false)], args := [d1, d2] }
  | _ => none }
def BlackoutFreeWrongFalsely : Prop := blackoutFreeRow.holds Try.pinned (OpenSpec.ofChange blackoutFreeWrong)

/-- 'wakemanlaw11.BlackoutNormals': WHATEVER THE INPUT: true; the input reads as it did. -/
def blackoutNormalsSpec : ChangeSpec := { name := "blackoutNormals", fn := fun _ => fun
  | [d] => { results := [.lit (.bool true)], args := [d] }
  | _ => none }
def blackoutNormalsRow : OpenClaim := { program := "ytaedijppbghnaaa", sum := "3b6ee90a0b3783e2cd709c316afad38b07a9b57cf2168163a9142976f2ff9db4", func := "wakeman/wakemanlaw11.BlackoutNormals", spec := "blackoutNormals", unfollowed := true, recurses := true, apart := false }
def BlackoutNormalsSaid : Prop := blackoutNormalsRow.holds Try.pinned (OpenSpec.ofChange blackoutNormalsSpec)

/-- ITS FALSE NEIGHBOUR: 'it returns false'. Refute it at one input. -/
def blackoutNormalsWrong : ChangeSpec := { name := "blackoutNormals", fn := fun _ => fun
  | [d] => { results := [.lit (.bool false)], args := [d] }
  | _ => none }
def BlackoutNormalsWrongFalsely : Prop := blackoutNormalsRow.holds Try.pinned (OpenSpec.ofChange blackoutNormalsWrong)

/-- 'wakemanlaw11.BlackoutAsks': WHATEVER THE INPUT: true; the input reads as it did. -/
def blackoutAsksSpec : ChangeSpec := { name := "blackoutAsks", fn := fun _ => fun
  | [d1, d2] => { results := [.lit (.bool true)], args := [d1, d2] }
  | _ => none }
def blackoutAsksRow : OpenClaim := { program := "ytaedijppbghnaaa", sum := "3b6ee90a0b3783e2cd709c316afad38b07a9b57cf2168163a9142976f2ff9db4", func := "wakeman/wakemanlaw11.BlackoutAsks", spec := "blackoutAsks", unfollowed := true, recurses := true, apart := false }
def BlackoutAsksSaid : Prop := blackoutAsksRow.holds Try.pinned (OpenSpec.ofChange blackoutAsksSpec)

/-- ITS FALSE NEIGHBOUR: 'it returns false'. Refute it at one input. -/
def blackoutAsksWrong : ChangeSpec := { name := "blackoutAsks", fn := fun _ => fun
  | [d1, d2] => { results := [.lit (.bool false)], args := [d1, d2] }
  | _ => none }
def BlackoutAsksWrongFalsely : Prop := blackoutAsksRow.holds Try.pinned (OpenSpec.ofChange blackoutAsksWrong)

/-- 'wakemanlaw11.BlackoutTwo': WHATEVER THE INPUT: true; the input reads as it did. -/
def blackoutTwoSpec : ChangeSpec := { name := "blackoutTwo", fn := fun _ => fun
  | [d1, d2] => { results := [.lit (.bool true)], args := [d1, d2] }
  | _ => none }
def blackoutTwoRow : OpenClaim := { program := "ytaedijppbghnaaa", sum := "3b6ee90a0b3783e2cd709c316afad38b07a9b57cf2168163a9142976f2ff9db4", func := "wakeman/wakemanlaw11.BlackoutTwo", spec := "blackoutTwo", unfollowed := true, recurses := true, apart := false }
def BlackoutTwoSaid : Prop := blackoutTwoRow.holds Try.pinned (OpenSpec.ofChange blackoutTwoSpec)

/-- ITS FALSE NEIGHBOUR: 'it returns false'. Refute it at one input. -/
def blackoutTwoWrong : ChangeSpec := { name := "blackoutTwo", fn := fun _ => fun
  | [d1, d2] => { results := [.lit (.bool false)], args := [d1, d2] }
  | _ => none }
def BlackoutTwoWrongFalsely : Prop := blackoutTwoRow.holds Try.pinned (OpenSpec.ofChange blackoutTwoWrong)

/-- 'wakemanlaw11.BlackoutSets': WHATEVER THE INPUT: true; the input reads as it did. -/
def blackoutSetsSpec : ChangeSpec := { name := "blackoutSets", fn := fun _ => fun
  | [d1, d2] => { results := [.lit (.bool true)], args := [d1, d2] }
  | _ => none }
def blackoutSetsRow : OpenClaim := { program := "ytaedijppbghnaaa", sum := "3b6ee90a0b3783e2cd709c316afad38b07a9b57cf2168163a9142976f2ff9db4", func := "wakeman/wakemanlaw11.BlackoutSets", spec := "blackoutSets", unfollowed := true, recurses := true, apart := false }
def BlackoutSetsSaid : Prop := blackoutSetsRow.holds Try.pinned (OpenSpec.ofChange blackoutSetsSpec)

/-- ITS FALSE NEIGHBOUR: 'it returns false'. Refute it at one input. -/
def blackoutSetsWrong : ChangeSpec := { name := "blackoutSets", fn := fun _ => fun
  | [d1, d2] => { results := [.lit (.bool false)], args := [d1, d2] }
  | _ => none }
def BlackoutSetsWrongFalsely : Prop := blackoutSetsRow.holds Try.pinned (OpenSpec.ofChange blackoutSetsWrong)

/-- 'wakemanlaw11.BlackoutWide': WHATEVER THE INPUT: true; the input reads as it did. -/
def blackoutWideSpec : ChangeSpec := { name := "blackoutWide", fn := fun _ => fun
  | [] => { results := [.lit (.bool true)], args := [] }
  | _ => none }
def blackoutWideRow : OpenClaim := { program := "ytaedijppbghnaaa", sum := "3b6ee90a0b3783e2cd709c316afad38b07a9b57cf2168163a9142976f2ff9db4", func := "wakeman/wakemanlaw11.BlackoutWide", spec := "blackoutWide", unfollowed := true, recurses := true, apart := false }
def BlackoutWideSaid : Prop := blackoutWideRow.holds Try.pinned (OpenSpec.ofChange blackoutWideSpec)

/-- ITS FALSE NEIGHBOUR: 'it returns false'. Refute it at one input. -/
def blackoutWideWrong : ChangeSpec := { name := "blackoutWide", fn := fun _ => fun
  | [] => { results := [.lit (.bool false)], args := [] }
  | _ => none }
def BlackoutWideWrongFalsely : Prop := blackoutWideRow.holds Try.pinned (OpenSpec.ofChange blackoutWideWrong)

/-- 'wakemanlaw11.BlackoutOrder': WHATEVER THE INPUT: true; the input reads as it did. -/
def blackoutOrderSpec : ChangeSpec := { name := "blackoutOrder", fn := fun _ => fun
  | [d1, d2, d3] => { results := [.lit (.bool true)], args := [d1, d2, d3] }
  | _ => none }
def blackoutOrderRow : OpenClaim := { program := "ytaedijppbghnaaa", sum := "3b6ee90a0b3783e2cd709c316afad38b07a9b57cf2168163a9142976f2ff9db4", func := "wakeman/wakemanlaw11.BlackoutOrder", spec := "blackoutOrder", unfollowed := true, recurses := true, apart := false }
def BlackoutOrderSaid : Prop := blackoutOrderRow.holds Try.pinned (OpenSpec.ofChange blackoutOrderSpec)

/-- ITS FALSE NEIGHBOUR: 'it returns false'. Refute it at one input. -/
def blackoutOrderWrong : ChangeSpec := { name := "blackoutOrder", fn := fun _ => fun
  | [d1, d2, d3] => { results := [.lit (.bool false)], args := [d1, d2, d3] }
  | _ => none }
def BlackoutOrderWrongFalsely : Prop := blackoutOrderRow.holds Try.pinned (OpenSpec.ofChange blackoutOrderWrong)

/- THE SECOND FORM. 'bulk': how many values and letters a reading holds, each counted each time it is reached (what is shared counts as often as it is met; a slice's spare places count too). A statement '..UptoSaid' is the law's where the arguments, and the package variables that the reading takes, are together of bulk at most 1048576: NARROWER than '..Said'. Prove '..Said' where nothing that the law and all that it calls make is longer than what came in: it says more and counts as full. Else prove '..UptoSaid'. A law counts once. -/
mutual
def uptoBulk {H : Type} : DataW H → Nat
  | .lit (.string bytes) => bytes.length + 1
  | .lit _ => 1
  | .nil => 1
  | .ptr d => uptoBulk d + 1
  | .slice elems spare => uptoBulkAll elems + uptoBulkAll spare + 1
  | .agg parts => uptoBulkAll parts + 1
  | .iface _ d => uptoBulk d + 1
  | .map entries => uptoBulkEntries entries + 1
  | .held _ => 1
def uptoBulkAll {H : Type} : List (DataW H) → Nat
  | [] => 0
  | d :: r => uptoBulk d + uptoBulkAll r
def uptoBulkEntries {H : Type} : List (Lit × DataW H) → Nat
  | [] => 0
  | x :: r => uptoBulkEntry x + uptoBulkEntries r
def uptoBulkEntry {H : Type} : Lit × DataW H → Nat
  | (.string bytes, d) => bytes.length + uptoBulk d + 1
  | (_, d) => uptoBulk d + 1
 end
def uptoSmall : (H : Type) → List (DataW H) → Bool := fun _ ds => decide (uptoBulkAll ds ≤ 1048576)
def OpenSpec.upto (s : _root_.Go.ChangeSpec) : _root_.Go.OpenSpec := { _root_.Go.OpenSpec.ofChange s with cond := some uptoSmall }

/-- 'wakemanlaw11.BlackoutSums', WHERE WHAT IT READS IS OF BULK AT MOST 1048576: true; the input reads as it did. -/
def blackoutSumsUptoRow : OpenClaim := { program := "ytaedijppbghnaaa", sum := "3b6ee90a0b3783e2cd709c316afad38b07a9b57cf2168163a9142976f2ff9db4", func := "wakeman/wakemanlaw11.BlackoutSums", spec := "blackoutSums", unfollowed := true, recurses := true, apart := false, narrowed := true }
def BlackoutSumsUptoSaid : Prop := blackoutSumsUptoRow.holds Try.pinned (OpenSpec.upto blackoutSumsSpec)

/-- 'wakemanlaw11.BlackoutLengths', WHERE WHAT IT READS IS OF BULK AT MOST 1048576: true; the input reads as it did. -/
def blackoutLengthsUptoRow : OpenClaim := { program := "ytaedijppbghnaaa", sum := "3b6ee90a0b3783e2cd709c316afad38b07a9b57cf2168163a9142976f2ff9db4", func := "wakeman/wakemanlaw11.BlackoutLengths", spec := "blackoutLengths", unfollowed := true, recurses := true, apart := false, narrowed := true }
def BlackoutLengthsUptoSaid : Prop := blackoutLengthsUptoRow.holds Try.pinned (OpenSpec.upto blackoutLengthsSpec)

/-- 'wakemanlaw11.BlackoutFree', WHERE WHAT IT READS IS OF BULK AT MOST 1048576: true; the input reads as it did. -/
def blackoutFreeUptoRow : OpenClaim := { program := "ytaedijppbghnaaa", sum := "3b6ee90a0b3783e2cd709c316afad38b07a9b57cf2168163a9142976f2ff9db4", func := "wakeman/wakemanlaw11.BlackoutFree", spec := "blackoutFree", unfollowed := true, recurses := true, apart := false, narrowed := true }
def BlackoutFreeUptoSaid : Prop := blackoutFreeUptoRow.holds Try.pinned (OpenSpec.upto blackoutFreeSpec)

/-- 'wakemanlaw11.BlackoutNormals', WHERE WHAT IT READS IS OF BULK AT MOST 1048576: true; the input reads as it did. -/
def blackoutNormalsUptoRow : OpenClaim := { program := "ytaedijppbghnaaa", sum := "3b6ee90a0b3783e2cd709c316afad38b07a9b57cf2168163a9142976f2ff9db4", func := "wakeman/wakemanlaw11.BlackoutNormals", spec := "blackoutNormals", unfollowed := true, recurses := true, apart := false, narrowed := true }
def BlackoutNormalsUptoSaid : Prop := blackoutNormalsUptoRow.holds Try.pinned (OpenSpec.upto blackoutNormalsSpec)

/-- 'wakemanlaw11.BlackoutAsks', WHERE WHAT IT READS IS OF BULK AT MOST 1048576: true; the input reads as it did. -/
def blackoutAsksUptoRow : OpenClaim := { program := "ytaedijppbghnaaa", sum := "3b6ee90a0b3783e2cd709c316afad38b07a9b57cf2168163a9142976f2ff9db4", func := "wakeman/wakemanlaw11.BlackoutAsks", spec := "blackoutAsks", unfollowed := true, recurses := true, apart := false, narrowed := true }
def BlackoutAsksUptoSaid : Prop := blackoutAsksUptoRow.holds Try.pinned (OpenSpec.upto blackoutAsksSpec)

/-- 'wakemanlaw11.BlackoutTwo', WHERE WHAT IT READS IS OF BULK AT MOST 1048576: true; the input reads as it did. -/
def blackoutTwoUptoRow : OpenClaim := { program := "ytaedijppbghnaaa", sum := "3b6ee90a0b3783e2cd709c316afad38b07a9b57cf2168163a9142976f2ff9db4", func := "wakeman/wakemanlaw11.BlackoutTwo", spec := "blackoutTwo", unfollowed := true, recurses := true, apart := false, narrowed := true }
def BlackoutTwoUptoSaid : Prop := blackoutTwoUptoRow.holds Try.pinned (OpenSpec.upto blackoutTwoSpec)

/-- 'wakemanlaw11.BlackoutSets', WHERE WHAT IT READS IS OF BULK AT MOST 1048576: true; the input reads as it did. -/
def blackoutSetsUptoRow : OpenClaim := { program := "ytaedijppbghnaaa", sum := "3b6ee90a0b3783e2cd709c316afad38b07a9b57cf2168163a9142976f2ff9db4", func := "wakeman/wakemanlaw11.BlackoutSets", spec := "blackoutSets", unfollowed := true, recurses := true, apart := false, narrowed := true }
def BlackoutSetsUptoSaid : Prop := blackoutSetsUptoRow.holds Try.pinned (OpenSpec.upto blackoutSetsSpec)

/-- 'wakemanlaw11.BlackoutWide', WHERE WHAT IT READS IS OF BULK AT MOST 1048576: true; the input reads as it did. -/
def blackoutWideUptoRow : OpenClaim := { program := "ytaedijppbghnaaa", sum := "3b6ee90a0b3783e2cd709c316afad38b07a9b57cf2168163a9142976f2ff9db4", func := "wakeman/wakemanlaw11.BlackoutWide", spec := "blackoutWide", unfollowed := true, recurses := true, apart := false, narrowed := true }
def BlackoutWideUptoSaid : Prop := blackoutWideUptoRow.holds Try.pinned (OpenSpec.upto blackoutWideSpec)

/-- 'wakemanlaw11.BlackoutOrder', WHERE WHAT IT READS IS OF BULK AT MOST 1048576: true; the input reads as it did. -/
def blackoutOrderUptoRow : OpenClaim := { program := "ytaedijppbghnaaa", sum := "3b6ee90a0b3783e2cd709c316afad38b07a9b57cf2168163a9142976f2ff9db4", func := "wakeman/wakemanlaw11.BlackoutOrder", spec := "blackoutOrder", unfollowed := true, recurses := true, apart := false, narrowed := true }
def BlackoutOrderUptoSaid : Prop := blackoutOrderUptoRow.holds Try.pinned (OpenSpec.upto blackoutOrderSpec)

end Rows
end Go.Proofs.Ytaedijppbghnaaa

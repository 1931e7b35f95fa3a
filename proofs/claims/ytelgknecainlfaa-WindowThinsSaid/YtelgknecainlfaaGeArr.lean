/- GeArr: texts for the statements of this seat: contracts of functions, walks, plain laws. Conditions: none. -/
import Derived.WalkKit
import Derived.Deep.MidRow
set_option linter.all false
/- Elements of an array by value. -/
namespace Go.Proofs.Ytelgknecainlfaa
open Go.RowKit
variable {P : Program}
theorem run_index1 (t e n : Nat) (cs : Array Value) (j : Nat) (v : Value) (w : World) (hu : P.underlying t = some (.array n e)) (ha : ∀ w, (isAgg e).run P w = .ok false w) (hz : ∀ w, (sizeOf e).run P w = .ok 1 w)
    (hj : j < n) (hv : cs[j]? = some v) : (Instr.index t (.agg cs) (.int .i64 j)).run P w = .ok v w := by
  have h1 : (0 : Int) ≤ (j : Int) ∧ (j : Int) < (n : Int) := by omega
  simp [Instr.index, run_underlying hu, asIntOf, h1, part, ha, hz, hv, go_sem]
  intro h; omega
theorem run_indexN (t e n m : Nat) (cs : Array Value) (j : Nat) (w : World) (hu : P.underlying t = some (.array n e)) (ha : ∀ w, (isAgg e).run P w = .ok true w) (hz : ∀ w, (sizeOf e).run P w = .ok m w)
    (hj : j < n) : (Instr.index t (.agg cs) (.int .i64 j)).run P w = .ok (.agg (cs.extract (j * m) (j * m + m))) w := by
  have h1 : (0 : Int) ≤ (j : Int) ∧ (j : Int) < (n : Int) := by omega
  simp [Instr.index, run_underlying hu, asIntOf, h1, part, ha, hz, go_sem]
  intro h; omega
end Go.Proofs.Ytelgknecainlfaa

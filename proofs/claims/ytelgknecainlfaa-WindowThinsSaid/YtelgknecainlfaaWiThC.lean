/- WiThC: texts for the statements of this seat: contracts of functions, walks, plain laws. Conditions: none. -/
import Derived.Test.YtelgknecainlfaaWiThB
import Derived.Test.YtelgknecainlfaaWiPeak2
set_option linter.all false
/- The walk of the statement WindowThins, with the closed example. -/
namespace Go.Proofs.Ytelgknecainlfaa
open Go.RowKit
theorem thins_w {w : World} {v : Value} {l : List Int} (h : Ints w v l) (hl : l.length ≤ maxLen) (T U : Int) : Calls Try.prog 5 #[.agg #[.int .i64 T, .int .i64 U], v] w fun e w' => e = .returned (.bool true) ∧ Kept (fun _ => False) w w' :=
  thins_of (Lib.hid fun _ => works_t) h hl T U
end Go.Proofs.Ytelgknecainlfaa

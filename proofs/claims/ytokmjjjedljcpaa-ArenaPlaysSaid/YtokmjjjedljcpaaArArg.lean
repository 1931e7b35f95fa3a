/- ArArg: texts for the statements of this seat: contracts of functions, walks, plain laws. Conditions: none. -/
import Derived.Test.YtokmjjjedljcpaaArPlays
set_option linter.all false
/- The ranges of small numbers as arguments; the walk of ArenaPlays for an argument as it comes. -/
namespace Go.Proofs.Ytokmjjjedljcpaa
open Go.RowKit Go.ChangeShapes
theorem plays_wf {w : World} {vl : Value} {l : List St} (h : Rows stC 4 w vl l) (hlb : ∀ x ∈ l, x.h ≤ 9223372036854775807 ∧ 0 ≤ x.at_ ∧ x.at_ ≤ 65535) {size hh : Int} (h0 : (Lit.int .u8 size).wf = true) (h2 : (Lit.int .i64 hh).wf = true) :
    Calls Try.prog 7 #[.int .u8 size, vl, .int .i64 hh] w fun e w' => e = .returned (.bool true) ∧ Kept (fun _ => False) w w' := by
  simp only [Lit.wf, Bool.and_eq_true, decide_eq_true_eq] at h0 h2
  have e1 : IntKind.u8.min = 0 := by decide
  have e2 : IntKind.u8.max = 255 := by decide
  have e3 : IntKind.i64.max = 9223372036854775807 := by decide
  exact plays_w h hlb size hh (by omega) (by omega) (by omega)
end Go.Proofs.Ytokmjjjedljcpaa

/- ArOnceCmp: texts for the statements of this seat: contracts of functions, walks, plain laws. Conditions: none. -/
import Derived.Test.YtokmjjjedljcpaaProg
import Derived.WalkKit
import Derived.Shelf.SlSortCmp.Whole1
import Derived.Lib.Hide
namespace Go.Proofs.Ytokmjjjedljcpaa
open Go.RowKit
/-- Arguments of the closure: numbers that are not negative. -/
abbrev N63 := {x : Int // 0 ≤ x}
def cmpH (x y : N63) : Int := x.1 % 4096 - y.1 % 4096
def encH (x : N63) : Value := .int .i64 x.1
theorem cmp_c (x y : N63) (w : World) : Calls Try.prog 27 #[encH x, encH y] w fun e w' => e = .returned (.int .i64 (cmpH x y)) ∧ ∃ q, w' = w.drewN q := by
  obtain ⟨x, hx⟩ := x
  obtain ⟨y, hy⟩ := y
  unfold cmpH encH
  simp only
  go_enter Try.func27, Try.ntmps27
  go_wp2
  go_ret
  exact ⟨rfl, 0, rfl⟩
end Go.Proofs.Ytokmjjjedljcpaa

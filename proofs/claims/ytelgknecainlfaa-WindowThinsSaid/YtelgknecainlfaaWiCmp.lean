/- WiCmp: texts for the statements of this seat: contracts of functions, walks, plain laws. Conditions: none. -/
import Derived.Shelf.SlSortCmp.NoneTotal
import Derived.Test.YtelgknecainlfaaWiRuns
set_option linter.all false
/- The comparison of turns: by time, ends ahead of begins. -/
namespace Go.Proofs.Ytelgknecainlfaa
open Go.RowKit Go.Shelf Go.Sort
abbrev T2 := Int × Bool
def encW (x : T2) : List Value := [.int .i64 x.1, .bool x.2]
def cmpW (x y : T2) : Int := if x.1 < y.1 then -1 else if y.1 < x.1 then 1 else if x.2 = y.2 then 0 else if y.2 = true then -1 else 1
def ltW (x y : T2) : Bool := decide (x.1 < y.1) || (decide (x.1 = y.1) && (!x.2 && y.2))
theorem cmpW_lt (x y : T2) : ltOf cmpW x y = ltW x y := by
  obtain ⟨x0, x1⟩ := x
  obtain ⟨y0, y1⟩ := y
  unfold ltOf cmpW ltW
  by_cases h1 : x0 < y0
  · simp [h1]
  · by_cases h2 : y0 < x0
    · have : ¬ x0 = y0 := by omega
      simp [h1, h2, this]
    · have : x0 = y0 := by omega
      subst this
      cases x1 <;> cases y1 <;> simp
theorem cmpW_swo : SWO (ltOf cmpW) where
  irrefl x := by rw [cmpW_lt]; obtain ⟨x0, x1⟩ := x; cases x1 <;> simp [ltW]
  trans x y z h1 h2 := by
    rw [cmpW_lt] at *
    obtain ⟨x0, x1⟩ := x
    obtain ⟨y0, y1⟩ := y
    obtain ⟨z0, z1⟩ := z
    cases x1 <;> cases y1 <;> cases z1 <;> simp [ltW] at * <;> omega
  ntrans x y z h1 h2 := by
    rw [cmpW_lt] at *
    obtain ⟨x0, x1⟩ := x
    obtain ⟨y0, y1⟩ := y
    obtain ⟨z0, z1⟩ := z
    cases x1 <;> cases y1 <;> cases z1 <;> simp [ltW] at * <;> omega
end Go.Proofs.Ytelgknecainlfaa

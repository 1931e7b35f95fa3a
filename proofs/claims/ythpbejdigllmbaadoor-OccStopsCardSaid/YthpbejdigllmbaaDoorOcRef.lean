/- OcRef: texts for the statements of this seat: contracts of functions, walks, plain laws. Conditions: none. -/
import Derived.Test.YthpbejdigllmbaaDoorOcWorks
namespace Go.Proofs.YthpbejdigllmbaaDoor
open Go.RowKit

theorem known_b (b : Bool) (n : Int) (w : World) (h : isSt n = b) : Calls Tryd.prog 44 #[.int .i64 n] w fun e w' => e = .returned (.bool b) ∧ w = w' := by
  subst h
  by_cases h1 : 0 ≤ n
  · by_cases h2 : n < 7
    · have h3 : n ≤ 6 := by omega
      have e : Hid (isSt n = true) := Lib.hid (by simp [isSt]; omega)
      go_enter Tryd.func44, Tryd.ntmps44
      go_wp2
      go_ret
      exact ⟨by rw [e.out]; rfl, rfl⟩
    · have h3 : decide (n ≤ 6) = false := by simp; omega
      have e : Hid (isSt n = false) := Lib.hid (by simp [isSt]; omega)
      clear h2
      go_enter Tryd.func44, Tryd.ntmps44
      go_wp2
      go_ret
      exact ⟨by rw [e.out]; rfl, rfl⟩
  · have e : Hid (isSt n = false) := Lib.hid (by simp [isSt]; omega)
    go_enter Tryd.func44, Tryd.ntmps44
    go_wp2
    go_ret
    exact ⟨by rw [e.out]; rfl, rfl⟩
set_option maxHeartbeats 4000000 in
theorem rlead_c (s t : Int) (w : World) (h1 : isSt s = true) (h2 : isSp t = true) : Calls Tryd.prog 38 #[.int .i64 s, .int .i64 t] w fun e w' => e = .returned (.int .i64 (lead s t)) ∧ w = w' := by
  have b1 : 0 ≤ s ∧ s < 7 := by simpa [isSt] using h1
  have b2 : 1 ≤ t ∧ t < 7 := by simpa [isSp] using h2
  have c1 : s = 0 ∨ s = 1 ∨ s = 2 ∨ s = 3 ∨ s = 4 ∨ s = 5 ∨ s = 6 := by omega
  have c2 : t = 1 ∨ t = 2 ∨ t = 3 ∨ t = 4 ∨ t = 5 ∨ t = 6 := by omega
  clear h1 h2 b1 b2
  rcases c1 with rfl | rfl | rfl | rfl | rfl | rfl | rfl <;> rcases c2 with rfl | rfl | rfl | rfl | rfl | rfl
  all_goals
    go_enter Tryd.func38, Tryd.ntmps38
    go_wp2
    go_ret
    exact ⟨rfl, rfl⟩
theorem rlead_b (x s t : Int) (w : World) (h1 : isSt s = true) (h2 : isSp t = true) (h : lead s t = x) : Calls Tryd.prog 38 #[.int .i64 s, .int .i64 t] w fun e w' => e = .returned (.int .i64 x) ∧ w = w' := h ▸ rlead_c s t w h1 h2
end Go.Proofs.YthpbejdigllmbaaDoor

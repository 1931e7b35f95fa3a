/- WiCmp2: texts for the statements of this seat: contracts of functions, walks, plain laws. Conditions: none. -/
import Derived.Test.YtelgknecainlfaaWiCmp
set_option linter.all false
/- The closure that compares turns. -/
namespace Go.Proofs.Ytelgknecainlfaa
open Go.RowKit Go.Shelf Go.Sort
theorem cmpW_c (x y : T2) (W : World) : Calls Try.prog 59 #[.agg #[.int .i64 x.1, .bool x.2], .agg #[.int .i64 y.1, .bool y.2]] W fun e w' => e = .returned (.int .i64 (cmpW x y)) ∧ ∃ q os', w' = grow (W.drewN q) os' := by
  obtain ⟨x0, x1⟩ := x
  obtain ⟨y0, y1⟩ := y
  have H : cmpW (x0, x1) (y0, y1) = if x0 < y0 then -1 else if y0 < x0 then 1 else if x1 = y1 then 0 else if y1 = true then -1 else 1 := rfl
  generalize cmpW (x0, x1) (y0, y1) = r at H ⊢
  replace H := Lib.hid H
  have HC := Lib.hid (fun W => compare_c x0 y0 W)
  by_cases h1 : x0 < y0
  · rw [if_pos h1] at HC
    go_enter Try.func59, Try.ntmps59
    go_wp2_with (go_at_call 60; refine (HC.out _).mono ?_; rintro e w' ⟨rfl, rfl⟩)
    go_ret
    exact ⟨by rw [H.out, if_pos h1]; rfl, 0, _, by rw [alloc_eq_grow, alloc_eq_grow, grow_grow]; rfl⟩
  · by_cases h2 : y0 < x0
    · rw [if_neg h1, if_pos h2] at HC
      go_enter Try.func59, Try.ntmps59
      go_wp2_with (go_at_call 60; refine (HC.out _).mono ?_; rintro e w' ⟨rfl, rfl⟩)
      go_ret
      exact ⟨by rw [H.out, if_neg (by omega), if_pos h2]; rfl, 0, _, by rw [alloc_eq_grow, alloc_eq_grow, grow_grow]; rfl⟩
    · rw [if_neg h1, if_neg h2] at HC
      rw [if_neg h1, if_neg h2] at H
      cases x1 <;> cases y1
      all_goals
        go_enter Try.func59, Try.ntmps59
        go_wp2_with (go_at_call 60; refine (HC.out _).mono ?_; rintro e w' ⟨rfl, rfl⟩)
        go_ret
        exact ⟨by rw [H.out]; rfl, 0, _, by rw [alloc_eq_grow, alloc_eq_grow, grow_grow]; rfl⟩
theorem cmpW_lays (blk off size : Nat) (w : World) : CmpLays Try.prog 59 #[] encW 2 cmpW blk off size w :=
  fun _ _ _ _ x y => cmpW_c x y _
end Go.Proofs.Ytelgknecainlfaa

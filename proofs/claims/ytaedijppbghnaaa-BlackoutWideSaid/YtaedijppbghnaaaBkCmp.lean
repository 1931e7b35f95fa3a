/- The comparison of borders. -/
import Derived.Test.YtaedijppbghnaaaProg
import Derived.WalkKit
import Derived.Shelf.SlSortCmp.NoneTotal
import Derived.Lib.Hide
import Derived.Test.YtaedijppbghnaaaGeTrip
namespace Go.Proofs.Ytaedijppbghnaaa
open Go.RowKit Go.Shelf Go.Sort
def encB (x : T3) : List Value := [.int .i64 x.1, .int .i64 x.2.1, .int .i64 x.2.2]
def cmpB (x y : T3) : Int := if x.1 < y.1 then -1 else if y.1 < x.1 then 1 else 0
theorem cmpB_lt (x y : T3) : ltOf cmpB x y = decide (x.1 < y.1) := by
  unfold ltOf cmpB
  by_cases h1 : x.1 < y.1
  · simp [h1]
  · by_cases h2 : y.1 < x.1 <;> simp [h1, h2]
theorem cmpB_swo : SWO (ltOf cmpB) where
  irrefl x := by rw [cmpB_lt]; simp
  trans x y z h1 h2 := by rw [cmpB_lt] at *; simp at *; omega
  ntrans x y z h1 h2 := by rw [cmpB_lt] at *; simp at *; omega
theorem cmpB_c (x y : T3) (W : World) : Calls Try.prog 60 #[.agg #[.int .i64 x.1, .int .i64 x.2.1, .int .i64 x.2.2], .agg #[.int .i64 y.1, .int .i64 y.2.1, .int .i64 y.2.2]] W fun e w' => e = .returned (.int .i64 (cmpB x y)) ∧ ∃ q os', w' = grow (W.drewN q) os' := by
  obtain ⟨x0, x1, x2⟩ := x
  obtain ⟨y0, y1, y2⟩ := y
  have H : cmpB (x0, x1, x2) (y0, y1, y2) = if x0 < y0 then -1 else if y0 < x0 then 1 else 0 := rfl
  generalize cmpB (x0, x1, x2) (y0, y1, y2) = r at H ⊢
  replace H := Lib.hid H
  by_cases h1 : x0 < y0
  · go_enter Try.func60, Try.ntmps60
    go_wp2
    go_ret
    exact ⟨by rw [H.out, if_pos h1]; rfl, 0, _, by rw [alloc_eq_grow, alloc_eq_grow, grow_grow]; rfl⟩
  · by_cases h2 : y0 < x0
    · go_enter Try.func60, Try.ntmps60
      go_wp2
      go_ret
      exact ⟨by rw [H.out, if_neg (by omega), if_pos h2]; rfl, 0, _, by rw [alloc_eq_grow, alloc_eq_grow, grow_grow]; rfl⟩
    · go_enter Try.func60, Try.ntmps60
      go_wp2
      go_ret
      exact ⟨by rw [H.out, if_neg (by omega), if_neg (by omega)]; rfl, 0, _, by rw [alloc_eq_grow, alloc_eq_grow, grow_grow]; rfl⟩
theorem cmpB_lays (blk off size : Nat) (w : World) : CmpLays Try.prog 60 #[] encB 3 cmpB blk off size w :=
  fun _ _ _ _ x y => cmpB_c x y _
end Go.Proofs.Ytaedijppbghnaaa

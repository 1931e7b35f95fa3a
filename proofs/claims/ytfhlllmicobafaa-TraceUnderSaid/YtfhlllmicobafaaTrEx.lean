/- TrEx: texts for the statements of this seat: contracts of functions, walks, plain laws. Conditions: none. -/
import Derived.Test.YtfhlllmicobafaaTrTally
import Derived.Test.YtfhlllmicobafaaTrArr9
import Derived.Test.YtfhlllmicobafaaTrEnds
import Derived.Test.YtfhlllmicobafaaTrMost
import Derived.Test.YtfhlllmicobafaaTrRefs
import Derived.Test.YtfhlllmicobafaaTrEq
import Derived.Test.YtfhlllmicobafaaTrClone
set_option linter.all false
/- The example, and that what the chapter says of it holds. -/
namespace Go.Proofs.Ytfhlllmicobafaa
open Go.RowKit
open Tr (Ev ofB)
def exL : List Ev := [⟨1, 100, 0, 90, 1, 1, 0, 0⟩, ⟨1, 100, 1, 100, 1, 2, 0, 0⟩, ⟨3, 105, 0, 90, 1, 1, 0, 0⟩, ⟨4, 105, 0, 90, 2, 0, 0, 115⟩, ⟨2, 110, 1, 100, 1, 2, 0, 0⟩, ⟨1, 120, 0, 90, 2, 3, 0, 0⟩, ⟨5, 130, 1, 128, 1, 0, 2, 0⟩]
theorem ex_c1 : Tr.check 2 exL = (0, 0) := by decide +kernel
theorem ex_c2 : Tr.check 2 (exL.drop 1) = (0, 8) := by decide +kernel
theorem ex_r : wrongE exL 2 0 (exL.length : Nat) = 0 ∧ runs exL 2 = [1, 2] := by decide +kernel
theorem ex_w : wrongE exL 0 (-1) 63 = 0 := by decide +kernel
theorem ex_m : (mf (picks isEnd 0 exL exL.length)).2 = 1 := by decide +kernel
theorem ex_l : (picks (fun e => e.kind == 1) 0 exL exL.length).map (fun p => p.2.t) = [100, 120] := by decide +kernel
theorem ex_e : endsR exL 1 100 = (4, true) ∧ endsC exL 1 100 = 0 := by decide +kernel
theorem ex_t : tallyC exL = [0, 3, 1, 1, 1, 1, 0, 0, 0] ∧ Tr.bad 64 exL = 0 := by decide +kernel
theorem exW : EvW exL := by
  intro x hx
  have : exL.all (fun x => decide (0 ≤ x.run ∧ x.run ≤ 10)) = true := by decide +kernel
  have := List.all_eq_true.1 this x hx
  have := of_decide_eq_true this
  exact Wf.of (by omega) (by omega)
theorem exCells : #[.int .i64 1, .int .i64 100, .int .i64 0, .int .i64 90, .int .i64 1, .int .i64 1, .int .i64 0, .int .i64 0, .int .i64 1, .int .i64 100, .int .i64 1, .int .i64 100, .int .i64 1, .int .i64 2, .int .i64 0, .int .i64 0, .int .i64 3, .int .i64 105, .int .i64 0, .int .i64 90, .int .i64 1, .int .i64 1, .int .i64 0, .int .i64 0, .int .i64 4, .int .i64 105, .int .i64 0, .int .i64 90, .int .i64 2, .int .i64 0, .int .i64 0, .int .i64 115, .int .i64 2, .int .i64 110, .int .i64 1, .int .i64 100, .int .i64 1, .int .i64 2, .int .i64 0, .int .i64 0, .int .i64 1, .int .i64 120, .int .i64 0, .int .i64 90, .int .i64 2, .int .i64 3, .int .i64 0, .int .i64 0, .int .i64 5, .int .i64 130, .int .i64 1, .int .i64 128, .int .i64 1, .int .i64 0, .int .i64 2, .int .i64 0] = (cellsL evC exL).toArray := by simp [cellsL, exL, evC]
set_option maxRecDepth 100000 in
set_option maxHeartbeats 4000000 in
theorem example_c (w : World) : Calls Try.prog 45 #[] w fun e w' => ∃ b, e = .returned (.slice (some ⟨b, 0, none⟩) 7 7) ∧ Evs w' (.slice (some ⟨b, 0, none⟩) 7 7) exL ∧ Kept (fun _ => False) w w' := by
  have HF : Hid (∀ cs, cs = (cellsL evC exL).toArray → Evs (w.alloc (.cells cs 35)) (.slice (some ⟨w.heap.size, 0, none⟩) 7 7) exL ∧ Kept (fun _ => False) w (w.alloc (.cells cs 35))) := Lib.hid fun cs e => by
    subst e
    refine ⟨?_, (Kept.refl _ _).alloc _⟩
    refine .inr ⟨w.heap.size, 0, 7, rfl, Nat.le_refl _, by simp, fun j x hx i u hu => ?_⟩
    rw [World.cell?_alloc_at _ _ _ _ rfl, Nat.zero_add, List.getElem?_toArray]
    have hi : i < 8 := (List.getElem?_eq_some_iff.1 hu).1
    rw [cellsL_get evC_len hx hi, hu]
  go_enter Try.func45, Try.ntmps45
  go_wp2
  go_ret
  have HF2 := HF.out _ exCells
  exact ⟨_, rfl, HF2⟩
end Go.Proofs.Ytfhlllmicobafaa

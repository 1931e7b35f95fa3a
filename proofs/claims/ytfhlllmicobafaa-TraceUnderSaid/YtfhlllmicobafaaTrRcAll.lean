/- TrRcAll: texts for the statements of this seat: contracts of functions, walks, plain laws. Conditions: none. -/
import Derived.Test.YtfhlllmicobafaaTrRc1
import Derived.Test.YtfhlllmicobafaaTrRc2
import Derived.Test.YtfhlllmicobafaaTrRc3
import Derived.Test.YtfhlllmicobafaaTrRc4
import Derived.Test.YtfhlllmicobafaaTrRc5
import Derived.Test.YtfhlllmicobafaaTrRc6
import Derived.Test.YtfhlllmicobafaaTrRc7
import Derived.Test.YtfhlllmicobafaaTrRc8
set_option linter.all false
/- Check of an event, the document's, whole. -/
namespace Go.Proofs.Ytfhlllmicobafaa
open Go.RowKit
open Tr (Ev)
theorem rchk_low (kd t job due att run why whn : Int) (h : kd < 1) (w : World) : Calls Try.prog 70 #[evV ⟨kd, t, job, due, att, run, why, whn⟩] w fun r w' => r = .returned (.int .i64 2) ∧ Kept (fun _ => False) w w' := by
  have HK : Hid (∀ o, Kept (fun _ => False) w (w.alloc o)) := Lib.hid fun o => (Kept.refl _ _).alloc _
  go_enter Try.func70, Try.ntmps70
  go_wp2
  go_ret
  exact ⟨rfl, HK.out _⟩
theorem rchk_high (kd t job due att run why whn : Int) (h : 8 < kd) (w : World) : Calls Try.prog 70 #[evV ⟨kd, t, job, due, att, run, why, whn⟩] w fun r w' => r = .returned (.int .i64 2) ∧ Kept (fun _ => False) w w' := by
  have HK : Hid (∀ o, Kept (fun _ => False) w (w.alloc o)) := Lib.hid fun o => (Kept.refl _ _).alloc _
  have h1 : ¬ kd < 1 := by omega
  go_enter Try.func70, Try.ntmps70
  go_wp2
  go_ret
  exact ⟨rfl, HK.out _⟩
theorem chk70_c (e : Ev) (w : World) : Calls Try.prog 70 #[evV e] w fun r w' => r = .returned (.int .i64 (Tr.chk e)) ∧ Kept (fun _ => False) w w' := by
  obtain ⟨kd, t, job, due, att, run, why, whn⟩ := e
  by_cases h1 : kd < 1
  · have : Tr.chk ⟨kd, t, job, due, att, run, why, whn⟩ = 2 := by unfold Tr.chk; rw [if_pos (.inl h1)]
    rw [this]; exact rchk_low kd t job due att run why whn h1 w
  · by_cases h8 : 8 < kd
    · have : Tr.chk ⟨kd, t, job, due, att, run, why, whn⟩ = 2 := by unfold Tr.chk; rw [if_pos (.inr h8)]
      rw [this]; exact rchk_high kd t job due att run why whn h8 w
    · have : kd = 1 ∨ kd = 2 ∨ kd = 3 ∨ kd = 4 ∨ kd = 5 ∨ kd = 6 ∨ kd = 7 ∨ kd = 8 := by omega
      rcases this with rfl | rfl | rfl | rfl | rfl | rfl | rfl | rfl
      · exact rchk_1 t job due att run why whn w
      · exact rchk_2 t job due att run why whn w
      · exact rchk_3 t job due att run why whn w
      · exact rchk_4 t job due att run why whn w
      · exact rchk_5 t job due att run why whn w
      · exact rchk_6 t job due att run why whn w
      · exact rchk_7 t job due att run why whn w
      · exact rchk_8 t job due att run why whn w
end Go.Proofs.Ytfhlllmicobafaa

/- TrRc8: texts for the statements of this seat: contracts of functions, walks, plain laws. Conditions: none. -/
import Derived.Test.YtfhlllmicobafaaTrW1
set_option linter.all false
/- Check of an event, the document's: kind 8. -/
namespace Go.Proofs.Ytfhlllmicobafaa
open Go.RowKit
open Tr (Ev)
theorem chk_no8 {t job due att run why whn : Int} (ht : Tr.vt t = true) (h : job < 0 ∨ 63 < job ∨ ¬ due = 0 ∨ ¬ att = 0 ∨ ¬ run = 0 ∨ ¬ whn = 0 ∨ why < 0 ∨ 0 < why) : Tr.chk ⟨8, t, job, due, att, run, why, whn⟩ = 2 := by
  unfold Tr.chk
  rw [if_neg (by simp only []; omega), if_neg (by simp only [ht]; simp), if_neg]
  simp only [Tr.fits, Tr.mostWhy, Tr.vt] at *
  simp at *
  omega
theorem chk_yes8 {t job due att run why whn : Int} (ht : Tr.vt t = true) (h : ¬ (job < 0) ∧ ¬ (63 < job) ∧ ¬ (¬ due = 0) ∧ ¬ (¬ att = 0) ∧ ¬ (¬ run = 0) ∧ ¬ (¬ whn = 0) ∧ ¬ (why < 0) ∧ ¬ (0 < why)) : Tr.chk ⟨8, t, job, due, att, run, why, whn⟩ = 0 := by
  unfold Tr.chk
  rw [if_neg (by simp only []; omega), if_neg (by simp only [ht]; simp), if_pos]
  simp only [Tr.fits, Tr.mostWhy, Tr.vt] at *
  simp at *
  omega
set_option maxRecDepth 100000 in
set_option maxHeartbeats 8000000 in
theorem rchk_8 (t job due att run why whn : Int) (w : World) : Calls Try.prog 70 #[evV ⟨8, t, job, due, att, run, why, whn⟩] w fun r w' => r = .returned (.int .i64 (Tr.chk ⟨8, t, job, due, att, run, why, whn⟩)) ∧ Kept (fun _ => False) w w' := by
  have HK : Hid (∀ o, Kept (fun _ => False) w (w.alloc o)) := Lib.hid fun o => (Kept.refl _ _).alloc _
  cases ht : Tr.vt t with
  | false =>
    have HT := Lib.hid ht
    have HE : Hid (Tr.chk ⟨8, t, job, due, att, run, why, whn⟩ = 14) := Lib.hid (by unfold Tr.chk; rw [if_neg (by simp only []; omega), if_pos (.inl ht)])
    clear ht
    go_enter Try.func70, Try.ntmps70
    go_wp2_with (first | (go_at_call 96; with_reducible refine (rtime_b false t _ HT.out).mono ?_; rintro e w' ⟨rfl, rfl⟩))
    go_ret
    exact ⟨by rw [HE.out]; rfl, HK.out _⟩
  | true =>
    have HT := Lib.hid ht
    by_cases h0 : job < 0
    · have HE : Hid (Tr.chk ⟨8, t, job, due, att, run, why, whn⟩ = 2) := Lib.hid (chk_no8 ht (.inl h0))
      clear ht
      go_enter Try.func70, Try.ntmps70
      go_wp2_with (first | (go_at_call 96; with_reducible refine (rtime_b true t _ HT.out).mono ?_; rintro e w' ⟨rfl, rfl⟩))
      go_ret
      exact ⟨by rw [HE.out]; rfl, HK.out _⟩
    by_cases h1 : 63 < job
    · have HE : Hid (Tr.chk ⟨8, t, job, due, att, run, why, whn⟩ = 2) := Lib.hid (chk_no8 ht (.inr (.inl h1)))
      clear ht
      go_enter Try.func70, Try.ntmps70
      go_wp2_with (first | (go_at_call 96; with_reducible refine (rtime_b true t _ HT.out).mono ?_; rintro e w' ⟨rfl, rfl⟩))
      go_ret
      exact ⟨by rw [HE.out]; rfl, HK.out _⟩
    by_cases h2 : ¬ due = 0
    · have HE : Hid (Tr.chk ⟨8, t, job, due, att, run, why, whn⟩ = 2) := Lib.hid (chk_no8 ht (.inr (.inr (.inl h2))))
      clear ht
      have g2 : (due == 0) = false := by simpa using h2
      have g2' : (due != 0) = true := by simpa using h2
      go_enter Try.func70, Try.ntmps70
      go_wp2_with (first | (go_at_call 96; with_reducible refine (rtime_b true t _ HT.out).mono ?_; rintro e w' ⟨rfl, rfl⟩))
      go_ret
      exact ⟨by rw [HE.out]; rfl, HK.out _⟩
    by_cases h3 : ¬ att = 0
    · have HE : Hid (Tr.chk ⟨8, t, job, due, att, run, why, whn⟩ = 2) := Lib.hid (chk_no8 ht (.inr (.inr (.inr (.inl h3)))))
      clear ht
      have g3 : (att == 0) = false := by simpa using h3
      have g3' : (att != 0) = true := by simpa using h3
      go_enter Try.func70, Try.ntmps70
      go_wp2_with (first | (go_at_call 96; with_reducible refine (rtime_b true t _ HT.out).mono ?_; rintro e w' ⟨rfl, rfl⟩))
      go_ret
      exact ⟨by rw [HE.out]; rfl, HK.out _⟩
    by_cases h4 : ¬ run = 0
    · have HE : Hid (Tr.chk ⟨8, t, job, due, att, run, why, whn⟩ = 2) := Lib.hid (chk_no8 ht (.inr (.inr (.inr (.inr (.inl h4))))))
      clear ht
      have g4 : (run == 0) = false := by simpa using h4
      have g4' : (run != 0) = true := by simpa using h4
      go_enter Try.func70, Try.ntmps70
      go_wp2_with (first | (go_at_call 96; with_reducible refine (rtime_b true t _ HT.out).mono ?_; rintro e w' ⟨rfl, rfl⟩))
      go_ret
      exact ⟨by rw [HE.out]; rfl, HK.out _⟩
    by_cases h5 : ¬ whn = 0
    · have HE : Hid (Tr.chk ⟨8, t, job, due, att, run, why, whn⟩ = 2) := Lib.hid (chk_no8 ht (.inr (.inr (.inr (.inr (.inr (.inl h5)))))))
      clear ht
      have g5 : (whn == 0) = false := by simpa using h5
      have g5' : (whn != 0) = true := by simpa using h5
      go_enter Try.func70, Try.ntmps70
      go_wp2_with (first | (go_at_call 96; with_reducible refine (rtime_b true t _ HT.out).mono ?_; rintro e w' ⟨rfl, rfl⟩))
      go_ret
      exact ⟨by rw [HE.out]; rfl, HK.out _⟩
    by_cases h6 : why < 0
    · have HE : Hid (Tr.chk ⟨8, t, job, due, att, run, why, whn⟩ = 2) := Lib.hid (chk_no8 ht (.inr (.inr (.inr (.inr (.inr (.inr (.inl h6))))))))
      clear ht
      go_enter Try.func70, Try.ntmps70
      go_wp2_with (first | (go_at_call 96; with_reducible refine (rtime_b true t _ HT.out).mono ?_; rintro e w' ⟨rfl, rfl⟩))
      go_ret
      exact ⟨by rw [HE.out]; rfl, HK.out _⟩
    by_cases h7 : 0 < why
    · have HE : Hid (Tr.chk ⟨8, t, job, due, att, run, why, whn⟩ = 2) := Lib.hid (chk_no8 ht (.inr (.inr (.inr (.inr (.inr (.inr (.inr h7))))))))
      clear ht
      go_enter Try.func70, Try.ntmps70
      go_wp2_with (first | (go_at_call 96; with_reducible refine (rtime_b true t _ HT.out).mono ?_; rintro e w' ⟨rfl, rfl⟩))
      go_ret
      exact ⟨by rw [HE.out]; rfl, HK.out _⟩
    have HE : Hid (Tr.chk ⟨8, t, job, due, att, run, why, whn⟩ = 0) := Lib.hid (chk_yes8 ht ⟨h0, h1, h2, h3, h4, h5, h6, h7⟩)
    clear ht
    go_enter Try.func70, Try.ntmps70
    go_wp2_with (first | (go_at_call 96; with_reducible refine (rtime_b true t _ HT.out).mono ?_; rintro e w' ⟨rfl, rfl⟩))
    go_ret
    exact ⟨by rw [HE.out]; rfl, HK.out _⟩
end Go.Proofs.Ytfhlllmicobafaa

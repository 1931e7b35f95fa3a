/- TrRc4: texts for the statements of this seat: contracts of functions, walks, plain laws. Conditions: none. -/
import Derived.Test.YtfhlllmicobafaaTrW1
set_option linter.all false
/- Check of an event, the document's: kind 4. -/
namespace Go.Proofs.Ytfhlllmicobafaa
open Go.RowKit
open Tr (Ev)
theorem chk_no4 {t job due att run why whn : Int} (ht : Tr.vt t = true) (hd : Tr.vt due = true) (h : job < 0 ∨ 63 < job ∨ t < due ∨ att < 1 ∨ 21 < att ∨ ¬ run = 0 ∨ att < 2 ∨ whn ≤ t ∨ 4611686018427387904 < whn ∨ why < 0 ∨ 0 < why) : Tr.chk ⟨4, t, job, due, att, run, why, whn⟩ = 2 := by
  unfold Tr.chk
  rw [if_neg (by simp only []; omega), if_neg (by simp only [ht, hd]; simp), if_neg]
  simp only [Tr.fits, Tr.mostWhy, Tr.vt] at *
  simp at *
  omega
theorem chk_yes4 {t job due att run why whn : Int} (ht : Tr.vt t = true) (hd : Tr.vt due = true) (h : ¬ (job < 0) ∧ ¬ (63 < job) ∧ ¬ (t < due) ∧ ¬ (att < 1) ∧ ¬ (21 < att) ∧ ¬ (¬ run = 0) ∧ ¬ (att < 2) ∧ ¬ (whn ≤ t) ∧ ¬ (4611686018427387904 < whn) ∧ ¬ (why < 0) ∧ ¬ (0 < why)) : Tr.chk ⟨4, t, job, due, att, run, why, whn⟩ = 0 := by
  unfold Tr.chk
  rw [if_neg (by simp only []; omega), if_neg (by simp only [ht, hd]; simp), if_pos]
  simp only [Tr.fits, Tr.mostWhy, Tr.vt] at *
  simp at *
  omega
set_option maxRecDepth 100000 in
set_option maxHeartbeats 8000000 in
theorem rchk_4 (t job due att run why whn : Int) (w : World) : Calls Try.prog 70 #[evV ⟨4, t, job, due, att, run, why, whn⟩] w fun r w' => r = .returned (.int .i64 (Tr.chk ⟨4, t, job, due, att, run, why, whn⟩)) ∧ Kept (fun _ => False) w w' := by
  have HK : Hid (∀ o, Kept (fun _ => False) w (w.alloc o)) := Lib.hid fun o => (Kept.refl _ _).alloc _
  cases ht : Tr.vt t with
  | false =>
    have HT := Lib.hid ht
    have HE : Hid (Tr.chk ⟨4, t, job, due, att, run, why, whn⟩ = 14) := Lib.hid (by unfold Tr.chk; rw [if_neg (by simp only []; omega), if_pos (.inl ht)])
    clear ht
    go_enter Try.func70, Try.ntmps70
    go_wp2_with (first | (go_at_call 96; with_reducible refine (rtime_b false t _ HT.out).mono ?_; rintro e w' ⟨rfl, rfl⟩))
    go_ret
    exact ⟨by rw [HE.out]; rfl, HK.out _⟩
  | true =>
    have HT := Lib.hid ht
    cases hd : Tr.vt due with
    | false =>
      have HD := Lib.hid hd
      have HE : Hid (Tr.chk ⟨4, t, job, due, att, run, why, whn⟩ = 14) := Lib.hid (by unfold Tr.chk; rw [if_neg (by simp only []; omega), if_pos (.inr ⟨by simp only []; omega, hd⟩)])
      clear ht hd
      go_enter Try.func70, Try.ntmps70
      go_wp2_with (first | (go_at_call 96; with_reducible refine (rtime_b true t _ HT.out).mono ?_; rintro e w' ⟨rfl, rfl⟩) | (go_at_call 96; with_reducible refine (rtime_b false due _ HD.out).mono ?_; rintro e w' ⟨rfl, rfl⟩))
      go_ret
      exact ⟨by rw [HE.out]; rfl, HK.out _⟩
    | true =>
      have HD := Lib.hid hd
      by_cases h0 : job < 0
      · have HE : Hid (Tr.chk ⟨4, t, job, due, att, run, why, whn⟩ = 2) := Lib.hid (chk_no4 ht hd (.inl h0))
        clear ht hd
        go_enter Try.func70, Try.ntmps70
        go_wp2_with (first | (go_at_call 96; with_reducible refine (rtime_b true t _ HT.out).mono ?_; rintro e w' ⟨rfl, rfl⟩) | (go_at_call 96; with_reducible refine (rtime_b true due _ HD.out).mono ?_; rintro e w' ⟨rfl, rfl⟩))
        go_ret
        exact ⟨by rw [HE.out]; rfl, HK.out _⟩
      by_cases h1 : 63 < job
      · have HE : Hid (Tr.chk ⟨4, t, job, due, att, run, why, whn⟩ = 2) := Lib.hid (chk_no4 ht hd (.inr (.inl h1)))
        clear ht hd
        go_enter Try.func70, Try.ntmps70
        go_wp2_with (first | (go_at_call 96; with_reducible refine (rtime_b true t _ HT.out).mono ?_; rintro e w' ⟨rfl, rfl⟩) | (go_at_call 96; with_reducible refine (rtime_b true due _ HD.out).mono ?_; rintro e w' ⟨rfl, rfl⟩))
        go_ret
        exact ⟨by rw [HE.out]; rfl, HK.out _⟩
      by_cases h2 : t < due
      · have HE : Hid (Tr.chk ⟨4, t, job, due, att, run, why, whn⟩ = 2) := Lib.hid (chk_no4 ht hd (.inr (.inr (.inl h2))))
        clear ht hd
        go_enter Try.func70, Try.ntmps70
        go_wp2_with (first | (go_at_call 96; with_reducible refine (rtime_b true t _ HT.out).mono ?_; rintro e w' ⟨rfl, rfl⟩) | (go_at_call 96; with_reducible refine (rtime_b true due _ HD.out).mono ?_; rintro e w' ⟨rfl, rfl⟩))
        go_ret
        exact ⟨by rw [HE.out]; rfl, HK.out _⟩
      by_cases h3 : att < 1
      · have HE : Hid (Tr.chk ⟨4, t, job, due, att, run, why, whn⟩ = 2) := Lib.hid (chk_no4 ht hd (.inr (.inr (.inr (.inl h3)))))
        clear ht hd
        go_enter Try.func70, Try.ntmps70
        go_wp2_with (first | (go_at_call 96; with_reducible refine (rtime_b true t _ HT.out).mono ?_; rintro e w' ⟨rfl, rfl⟩) | (go_at_call 96; with_reducible refine (rtime_b true due _ HD.out).mono ?_; rintro e w' ⟨rfl, rfl⟩))
        go_ret
        exact ⟨by rw [HE.out]; rfl, HK.out _⟩
      by_cases h4 : 21 < att
      · have HE : Hid (Tr.chk ⟨4, t, job, due, att, run, why, whn⟩ = 2) := Lib.hid (chk_no4 ht hd (.inr (.inr (.inr (.inr (.inl h4))))))
        clear ht hd
        go_enter Try.func70, Try.ntmps70
        go_wp2_with (first | (go_at_call 96; with_reducible refine (rtime_b true t _ HT.out).mono ?_; rintro e w' ⟨rfl, rfl⟩) | (go_at_call 96; with_reducible refine (rtime_b true due _ HD.out).mono ?_; rintro e w' ⟨rfl, rfl⟩))
        go_ret
        exact ⟨by rw [HE.out]; rfl, HK.out _⟩
      by_cases h5 : ¬ run = 0
      · have HE : Hid (Tr.chk ⟨4, t, job, due, att, run, why, whn⟩ = 2) := Lib.hid (chk_no4 ht hd (.inr (.inr (.inr (.inr (.inr (.inl h5)))))))
        clear ht hd
        have g5 : (run == 0) = false := by simpa using h5
        have g5' : (run != 0) = true := by simpa using h5
        go_enter Try.func70, Try.ntmps70
        go_wp2_with (first | (go_at_call 96; with_reducible refine (rtime_b true t _ HT.out).mono ?_; rintro e w' ⟨rfl, rfl⟩) | (go_at_call 96; with_reducible refine (rtime_b true due _ HD.out).mono ?_; rintro e w' ⟨rfl, rfl⟩))
        go_ret
        exact ⟨by rw [HE.out]; rfl, HK.out _⟩
      by_cases h6 : att < 2
      · have HE : Hid (Tr.chk ⟨4, t, job, due, att, run, why, whn⟩ = 2) := Lib.hid (chk_no4 ht hd (.inr (.inr (.inr (.inr (.inr (.inr (.inl h6))))))))
        clear ht hd
        go_enter Try.func70, Try.ntmps70
        go_wp2_with (first | (go_at_call 96; with_reducible refine (rtime_b true t _ HT.out).mono ?_; rintro e w' ⟨rfl, rfl⟩) | (go_at_call 96; with_reducible refine (rtime_b true due _ HD.out).mono ?_; rintro e w' ⟨rfl, rfl⟩))
        go_ret
        exact ⟨by rw [HE.out]; rfl, HK.out _⟩
      by_cases h7 : whn ≤ t
      · have HE : Hid (Tr.chk ⟨4, t, job, due, att, run, why, whn⟩ = 2) := Lib.hid (chk_no4 ht hd (.inr (.inr (.inr (.inr (.inr (.inr (.inr (.inl h7)))))))))
        clear ht hd
        go_enter Try.func70, Try.ntmps70
        go_wp2_with (first | (go_at_call 96; with_reducible refine (rtime_b true t _ HT.out).mono ?_; rintro e w' ⟨rfl, rfl⟩) | (go_at_call 96; with_reducible refine (rtime_b true due _ HD.out).mono ?_; rintro e w' ⟨rfl, rfl⟩))
        go_ret
        exact ⟨by rw [HE.out]; rfl, HK.out _⟩
      by_cases h8 : 4611686018427387904 < whn
      · have HE : Hid (Tr.chk ⟨4, t, job, due, att, run, why, whn⟩ = 2) := Lib.hid (chk_no4 ht hd (.inr (.inr (.inr (.inr (.inr (.inr (.inr (.inr (.inl h8))))))))))
        clear ht hd
        go_enter Try.func70, Try.ntmps70
        go_wp2_with (first | (go_at_call 96; with_reducible refine (rtime_b true t _ HT.out).mono ?_; rintro e w' ⟨rfl, rfl⟩) | (go_at_call 96; with_reducible refine (rtime_b true due _ HD.out).mono ?_; rintro e w' ⟨rfl, rfl⟩))
        go_ret
        exact ⟨by rw [HE.out]; rfl, HK.out _⟩
      by_cases h9 : why < 0
      · have HE : Hid (Tr.chk ⟨4, t, job, due, att, run, why, whn⟩ = 2) := Lib.hid (chk_no4 ht hd (.inr (.inr (.inr (.inr (.inr (.inr (.inr (.inr (.inr (.inl h9)))))))))))
        clear ht hd
        go_enter Try.func70, Try.ntmps70
        go_wp2_with (first | (go_at_call 96; with_reducible refine (rtime_b true t _ HT.out).mono ?_; rintro e w' ⟨rfl, rfl⟩) | (go_at_call 96; with_reducible refine (rtime_b true due _ HD.out).mono ?_; rintro e w' ⟨rfl, rfl⟩))
        go_ret
        exact ⟨by rw [HE.out]; rfl, HK.out _⟩
      by_cases h10 : 0 < why
      · have HE : Hid (Tr.chk ⟨4, t, job, due, att, run, why, whn⟩ = 2) := Lib.hid (chk_no4 ht hd (.inr (.inr (.inr (.inr (.inr (.inr (.inr (.inr (.inr (.inr h10)))))))))))
        clear ht hd
        go_enter Try.func70, Try.ntmps70
        go_wp2_with (first | (go_at_call 96; with_reducible refine (rtime_b true t _ HT.out).mono ?_; rintro e w' ⟨rfl, rfl⟩) | (go_at_call 96; with_reducible refine (rtime_b true due _ HD.out).mono ?_; rintro e w' ⟨rfl, rfl⟩))
        go_ret
        exact ⟨by rw [HE.out]; rfl, HK.out _⟩
      have HE : Hid (Tr.chk ⟨4, t, job, due, att, run, why, whn⟩ = 0) := Lib.hid (chk_yes4 ht hd ⟨h0, h1, h2, h3, h4, h5, h6, h7, h8, h9, h10⟩)
      clear ht hd
      go_enter Try.func70, Try.ntmps70
      go_wp2_with (first | (go_at_call 96; with_reducible refine (rtime_b true t _ HT.out).mono ?_; rintro e w' ⟨rfl, rfl⟩) | (go_at_call 96; with_reducible refine (rtime_b true due _ HD.out).mono ?_; rintro e w' ⟨rfl, rfl⟩))
      go_ret
      exact ⟨by rw [HE.out]; rfl, HK.out _⟩
end Go.Proofs.Ytfhlllmicobafaa

/- TrPred: texts for the statements of this seat: contracts of functions, walks, plain laws. Conditions: none. -/
import Derived.Test.YtfhlllmicobafaaTrLaun
set_option linter.all false
/- The tests that some is asked with. -/
namespace Go.Proofs.Ytfhlllmicobafaa
open Go.RowKit Go.Shelf
open Tr (Ev ofB)

theorem le3_is (b : Bool) (e : Ev) (w : World) (h : decide (e.kind ≤ 3) = b) : Calls Try.prog 53 #[evV e] w fun r w' => r = .returned (.bool b) ∧ Kept (fun _ => False) w w' := by
  have HK : Hid (∀ o, Kept (fun _ => False) w (w.alloc o)) := Lib.hid fun o => (Kept.refl _ _).alloc _
  have HB := Lib.hid h
  clear h
  go_enter Try.func53, Try.ntmps53
  go_wp2
  go_ret
  exact ⟨by rw [← HB.out]; rfl, HK.out _⟩
theorem first1_is (b : Bool) (e : Ev) (w : World) (h : (decide (e.kind = 1) && decide (e.att = 1)) = b) : Calls Try.prog 57 #[evV e] w fun r w' => r = .returned (.bool b) ∧ Kept (fun _ => False) w w' := by
  have HK : Hid (Kept (fun _ => False) w (w.alloc (.cells #[.int .i64 e.kind, .int .i64 e.t, .int .i64 e.job, .int .i64 e.due, .int .i64 e.att, .int .i64 e.run, .int .i64 e.why, .int .i64 e.whn] 35))) := Lib.hid ((Kept.refl _ _).alloc _)
  have HR := Lib.hid (RowAt.new w 35 #[.int .i64 e.kind, .int .i64 e.t, .int .i64 e.job, .int .i64 e.due, .int .i64 e.att, .int .i64 e.run, .int .i64 e.why, .int .i64 e.whn])
  have HB := Lib.hid h
  clear h
  by_cases h1 : e.kind = 1
  · have t1 : (e.kind == 1) = true := by simpa using h1
    by_cases h2 : e.att = 1
    · have HE : Hid (b = true) := Lib.hid (by rw [← HB.out]; simp [h1, h2])
      have t2 : (e.att == 1) = true := by simpa using h2
      clear h1 h2
      go_enter Try.func57, Try.ntmps57
      go_wp2_with (go_at_call 54; fail)
      refine (launched_is true e _ t1).mono ?_
      rintro r w1 ⟨rfl, K⟩
      have c := (HR.out.same K).get (j := 4) rfl
      have cl := (HR.out.same K).lt
      have HK1 := Lib.hid (HK.out.trans K (fun _ _ h => h))
      clear K
      go_wp2
      go_ret
      exact ⟨by rw [HE.out]; rfl, HK1.out⟩
    · have HE : Hid (b = false) := Lib.hid (by rw [← HB.out]; simp [h2])
      have t2 : (e.att == 1) = false := by simpa using h2
      clear h1 h2
      go_enter Try.func57, Try.ntmps57
      go_wp2_with (go_at_call 54; fail)
      refine (launched_is true e _ t1).mono ?_
      rintro r w1 ⟨rfl, K⟩
      have c := (HR.out.same K).get (j := 4) rfl
      have cl := (HR.out.same K).lt
      have HK1 := Lib.hid (HK.out.trans K (fun _ _ h => h))
      clear K
      go_wp2
      go_ret
      exact ⟨by rw [HE.out]; rfl, HK1.out⟩
  · have t1 : (e.kind == 1) = false := by simpa using h1
    have HE : Hid (b = false) := Lib.hid (by rw [← HB.out]; simp [h1])
    clear h1
    go_enter Try.func57, Try.ntmps57
    go_wp2_with (go_at_call 54; fail)
    refine (launched_is false e _ t1).mono ?_
    rintro r w1 ⟨rfl, K⟩
    have HK1 := Lib.hid (HK.out.trans K (fun _ _ h => h))
    clear K
    go_wp2
    go_ret
    exact ⟨by rw [HE.out]; rfl, HK1.out⟩
theorem outc_is (b : Bool) (e : Ev) (w : World) (h : (decide (e.kind = 1) || decide (e.kind = 5)) = b) : Calls Try.prog 61 #[evV e] w fun r w' => r = .returned (.bool b) ∧ Kept (fun _ => False) w w' := by
  have HK : Hid (Kept (fun _ => False) w (w.alloc (.cells #[.int .i64 e.kind, .int .i64 e.t, .int .i64 e.job, .int .i64 e.due, .int .i64 e.att, .int .i64 e.run, .int .i64 e.why, .int .i64 e.whn] 35))) := Lib.hid ((Kept.refl _ _).alloc _)
  have HR := Lib.hid (RowAt.new w 35 #[.int .i64 e.kind, .int .i64 e.t, .int .i64 e.job, .int .i64 e.due, .int .i64 e.att, .int .i64 e.run, .int .i64 e.why, .int .i64 e.whn])
  have HB := Lib.hid h
  clear h
  by_cases h1 : e.kind = 1
  · have t1 : (e.kind == 1) = true := by simpa using h1
    have HE : Hid (b = true) := Lib.hid (by rw [← HB.out]; simp [h1])
    clear h1
    go_enter Try.func61, Try.ntmps61
    go_wp2_with (go_at_call 54; fail)
    refine (launched_is true e _ t1).mono ?_
    rintro r w1 ⟨rfl, K⟩
    have HK1 := Lib.hid (HK.out.trans K (fun _ _ h => h))
    clear K
    go_wp2
    go_ret
    exact ⟨by rw [HE.out]; rfl, HK1.out⟩
  · have t1 : (e.kind == 1) = false := by simpa using h1
    by_cases h2 : e.kind = 5
    · have HE : Hid (b = true) := Lib.hid (by rw [← HB.out]; simp [h2])
      have t2 : (e.kind == 5) = true := by simpa using h2
      clear h1 h2
      go_enter Try.func61, Try.ntmps61
      go_wp2_with (go_at_call 54; fail)
      refine (launched_is false e _ t1).mono ?_
      rintro r w1 ⟨rfl, K⟩
      have c := (HR.out.same K).get (j := 0) rfl
      have cl := (HR.out.same K).lt
      have HK1 := Lib.hid (HK.out.trans K (fun _ _ h => h))
      clear K
      go_wp2
      go_ret
      exact ⟨by rw [HE.out]; rfl, HK1.out⟩
    · have HE : Hid (b = false) := Lib.hid (by rw [← HB.out]; simp [h1, h2])
      have t2 : (e.kind == 5) = false := by simpa using h2
      clear h1 h2
      go_enter Try.func61, Try.ntmps61
      go_wp2_with (go_at_call 54; fail)
      refine (launched_is false e _ t1).mono ?_
      rintro r w1 ⟨rfl, K⟩
      have c := (HR.out.same K).get (j := 0) rfl
      have cl := (HR.out.same K).lt
      have HK1 := Lib.hid (HK.out.trans K (fun _ _ h => h))
      clear K
      go_wp2
      go_ret
      exact ⟨by rw [HE.out]; rfl, HK1.out⟩
theorem end_is (b : Bool) (e : Ev) (due : Int) (Bd : Nat) (w : World) (hd : RowAt w Bd [.int .i64 due]) (h : ((decide (e.kind = 2) || decide (e.kind = 5)) && decide (e.due = due)) = b) :
    Calls Try.prog 62 #[evV e, .pointer (some ⟨Bd, 0, none⟩)] w fun r w' => r = .returned (.bool b) ∧ Kept (fun _ => False) w w' := by
  have HK : Hid (∀ o, Kept (fun _ => False) w (w.alloc o)) := Lib.hid fun o => (Kept.refl _ _).alloc _
  have c := hd.get (j := 0) rfl
  have cl := hd.lt
  have HB := Lib.hid h
  clear h hd
  by_cases h1 : e.kind = 2
  · have t1 : (e.kind == 2) = true := by simpa using h1
    by_cases h2 : e.due = due
    · have HE : Hid (b = true) := Lib.hid (by rw [← HB.out]; simp [h1, h2])
      have t2 : (e.due == due) = true := by simpa using h2
      clear h1 h2
      go_enter Try.func62, Try.ntmps62
      go_wp2
      go_ret
      exact ⟨by rw [HE.out]; rfl, HK.out _⟩
    · have HE : Hid (b = false) := Lib.hid (by rw [← HB.out]; simp [h2])
      have t2 : (e.due == due) = false := by simpa using h2
      clear h1 h2
      go_enter Try.func62, Try.ntmps62
      go_wp2
      go_ret
      exact ⟨by rw [HE.out]; rfl, HK.out _⟩
  · have t1 : (e.kind == 2) = false := by simpa using h1
    by_cases h3 : e.kind = 5
    · have t3 : (e.kind == 5) = true := by simpa using h3
      by_cases h2 : e.due = due
      · have HE : Hid (b = true) := Lib.hid (by rw [← HB.out]; simp [h3, h2])
        have t2 : (e.due == due) = true := by simpa using h2
        clear h1 h2 h3
        go_enter Try.func62, Try.ntmps62
        go_wp2
        go_ret
        exact ⟨by rw [HE.out]; rfl, HK.out _⟩
      · have HE : Hid (b = false) := Lib.hid (by rw [← HB.out]; simp [h2])
        have t2 : (e.due == due) = false := by simpa using h2
        clear h1 h2 h3
        go_enter Try.func62, Try.ntmps62
        go_wp2
        go_ret
        exact ⟨by rw [HE.out]; rfl, HK.out _⟩
    · have HE : Hid (b = false) := Lib.hid (by rw [← HB.out]; simp [h1, h3])
      have t3 : (e.kind == 5) = false := by simpa using h3
      clear h1 h3
      go_enter Try.func62, Try.ntmps62
      go_wp2
      go_ret
      exact ⟨by rw [HE.out]; rfl, HK.out _⟩
end Go.Proofs.Ytfhlllmicobafaa

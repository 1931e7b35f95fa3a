/- TrChkAll: texts for the statements of this seat: contracts of functions, walks, plain laws. Conditions: none. -/
import Derived.Test.YtfhlllmicobafaaTrChkA
import Derived.Test.YtfhlllmicobafaaTrChkB
import Derived.Test.YtfhlllmicobafaaTrChkC
set_option linter.all false
/- event.Check, whole. -/
namespace Go.Proofs.Ytfhlllmicobafaa
open Go.RowKit
open Tr (Ev)

/-- What answers without the last test. -/
theorem chk_low (kd t job due att run why whn : Int) (h : kd < 1) (w : World) : Calls Try.prog 66 #[evV ⟨kd, t, job, due, att, run, why, whn⟩] w fun r w' => r = .returned (.int .i64 2) ∧ Kept (fun _ => False) w w' := by
  have HK0 := Lib.hid ((Kept.refl (fun _ => False) w).alloc (.cells (evC ⟨kd, t, job, due, att, run, why, whn⟩).toArray 35))
  have HROW := Lib.hid (RowAt.new w 35 (evC ⟨kd, t, job, due, att, run, why, whn⟩).toArray)
  go_enter Try.func66, Try.ntmps66
  go_wp2_with (go_at_call 83; fail)
  refine (kinds_c _).mono ?_
  rintro e w1 ⟨g, rfl, hg1, hg2, hgc, K1⟩
  have HK1 := Lib.hid (HK0.out.trans K1 (fun _ _ h => h))
  have c0 := (HROW.out.same K1).get (j := 0) rfl
  have hb := (HROW.out.same K1).lt
  clear K1 HK0 HROW hgc
  go_wp2
  go_ret
  exact ⟨rfl, HK1.out⟩
theorem chk_high (kd t job due att run why whn : Int) (h : 8 < kd) (w : World) : Calls Try.prog 66 #[evV ⟨kd, t, job, due, att, run, why, whn⟩] w fun r w' => r = .returned (.int .i64 2) ∧ Kept (fun _ => False) w w' := by
  have HK0 := Lib.hid ((Kept.refl (fun _ => False) w).alloc (.cells (evC ⟨kd, t, job, due, att, run, why, whn⟩).toArray 35))
  have HROW := Lib.hid (RowAt.new w 35 (evC ⟨kd, t, job, due, att, run, why, whn⟩).toArray)
  have h1 : ¬ kd < 1 := by omega
  have h9 : 9 ≤ kd := by omega
  go_enter Try.func66, Try.ntmps66
  go_wp2_with (go_at_call 83; fail)
  refine (kinds_c _).mono ?_
  rintro e w1 ⟨g, rfl, hg1, hg2, hgc, K1⟩
  have HK1 := Lib.hid (HK0.out.trans K1 (fun _ _ h => h))
  have c0 := (HROW.out.same K1).get (j := 0) rfl
  have hb := (HROW.out.same K1).lt
  clear K1 HK0 HROW hgc
  go_wp2
  go_ret
  exact ⟨rfl, HK1.out⟩
set_option maxRecDepth 100000 in
set_option maxHeartbeats 4000000 in
theorem chk_time (k : Nat) (t job due att run why whn : Int) (hk1 : 1 ≤ k) (hk8 : k ≤ 8) (w : World) (ht : Tr.vt t = false) :
    Calls Try.prog 66 #[evV ⟨k, t, job, due, att, run, why, whn⟩] w fun r w' => r = .returned (.int .i64 14) ∧ Kept (fun _ => False) w w' := by
  have HK0 := Lib.hid ((Kept.refl (fun _ => False) w).alloc (.cells (evC ⟨k, t, job, due, att, run, why, whn⟩).toArray 35))
  have HROW := Lib.hid (RowAt.new w 35 (evC ⟨k, t, job, due, att, run, why, whn⟩).toArray)
  have HT := Lib.hid ht
  clear ht
  go_enter Try.func66, Try.ntmps66
  go_wp2_with (go_at_call 83; fail)
  refine (kinds_c _).mono ?_
  rintro e w1 ⟨g, rfl, hg1, hg2, hgc, K1⟩
  have HK1 := Lib.hid (HK0.out.trans K1 (fun _ _ h => h))
  have HR1 := Lib.hid (HROW.out.same K1)
  obtain ⟨A, hA⟩ : ∃ A, w.heap.size = A := ⟨_, rfl⟩
  rw [hA] at HR1 ⊢
  clear hA K1 HK0 HROW hg1
  have c0 := HR1.out.get (j := 0) rfl
  have c1 := HR1.out.get (j := 1) rfl
  have hb := HR1.out.lt
  obtain ⟨d0, d1, d2⟩ := kind_cells hgc hk1 hk8
  clear hgc
  have k1 : ¬ (k : Int) < 1 := by omega
  have k2 : (k : Int) < 9 := by omega
  go_wp2_with (go_at_call 85; refine (valid_b false t _ HT.out).mono ?_; rintro e w' ⟨rfl, rfl⟩)
  go_ret
  exact ⟨rfl, HK1.out.alloc _⟩
set_option maxRecDepth 100000 in
set_option maxHeartbeats 4000000 in
theorem chk_due (k : Nat) (t job due att run why whn : Int) (hk1 : 1 ≤ k) (hk8 : k ≤ 8) (w : World) (e2 : usesB k 2 = true) (ht : Tr.vt t = true) (hd : Tr.vt due = false) :
    Calls Try.prog 66 #[evV ⟨k, t, job, due, att, run, why, whn⟩] w fun r w' => r = .returned (.int .i64 14) ∧ Kept (fun _ => False) w w' := by
  have HK0 := Lib.hid ((Kept.refl (fun _ => False) w).alloc (.cells (evC ⟨k, t, job, due, att, run, why, whn⟩).toArray 35))
  have HROW := Lib.hid (RowAt.new w 35 (evC ⟨k, t, job, due, att, run, why, whn⟩).toArray)
  have HT := Lib.hid ht
  have HD := Lib.hid hd
  have U2 := Lib.hid e2
  clear ht hd e2
  go_enter Try.func66, Try.ntmps66
  go_wp2_with (go_at_call 83; fail)
  refine (kinds_c _).mono ?_
  rintro e w1 ⟨g, rfl, hg1, hg2, hgc, K1⟩
  have HK1 := Lib.hid (HK0.out.trans K1 (fun _ _ h => h))
  have HR1 := Lib.hid (HROW.out.same K1)
  obtain ⟨A, hA⟩ : ∃ A, w.heap.size = A := ⟨_, rfl⟩
  rw [hA] at HR1 ⊢
  clear hA K1 HK0 HROW hg1
  have c0 := HR1.out.get (j := 0) rfl
  have c1 := HR1.out.get (j := 1) rfl
  have c3 := HR1.out.get (j := 3) rfl
  have hb := HR1.out.lt
  obtain ⟨d0, d1, d2⟩ := kind_cells hgc hk1 hk8
  clear hgc
  have k1 : ¬ (k : Int) < 1 := by omega
  have k2 : (k : Int) < 9 := by omega
  go_wp2_with (first
    | (go_at_call 85; with_reducible refine (valid_b true t _ HT.out).mono ?_; rintro e w' ⟨rfl, rfl⟩)
    | (go_at_call 85; with_reducible refine (valid_b false due _ HD.out).mono ?_; rintro e w' ⟨rfl, rfl⟩)
    | (go_at_call 84; refine (uses_c (usesK k) 2 true U2.out w1.heap.size _ (by simp)).mono ?_; rintro e w' ⟨rfl, rfl⟩))
  go_ret
  exact ⟨rfl, HK1.out.alloc _⟩
theorem chk66_k (k : Nat) (t job due att run why whn : Int) (hk1 : 1 ≤ k) (hk8 : k ≤ 8) (hr : run ≤ 9223372036854775807) (w : World) :
    Calls Try.prog 66 #[evV ⟨k, t, job, due, att, run, why, whn⟩] w fun r w' => r = .returned (.int .i64 (Tr.chk ⟨k, t, job, due, att, run, why, whn⟩)) ∧ Kept (fun _ => False) w w' := by
  have hf := fits_in k hk1 hk8 t job due att run why whn hr
  obtain ⟨-, a2, -, -, -⟩ := uses_tab k hk1 hk8
  unfold Tr.chk
  rw [if_neg (by show ¬ ((k : Int) < 1 ∨ 8 < (k : Int)); omega)]
  cases ht : Tr.vt t with
  | false => rw [if_pos (.inl rfl)]; exact chk_time k t job due att run why whn hk1 hk8 w ht
  | true =>
    by_cases h5 : k ≤ 5
    · rw [decide_eq_true h5] at a2
      cases hd : Tr.vt due with
      | false => rw [if_pos (.inr ⟨by show (k : Int) ≤ 5; omega, rfl⟩)]; exact chk_due k t job due att run why whn hk1 hk8 w a2 ht hd
      | true =>
        rw [if_neg (by simp)]
        by_cases h4 : k = 4
        · subst h4
          rw [if_pos rfl] at hf
          rw [hf]
          cases b0 : inB (usesB 4 1) job 0 63 with
          | false => exact chk_a0 t job due att run why whn _ _ _ _ _ w rfl rfl rfl rfl rfl ht hd a2 b0
          | true =>
            cases b1 : inB (usesB 4 2) due 0 t with
            | false => exact chk_a1 t job due att run why whn _ _ _ _ _ w rfl rfl rfl rfl rfl ht hd a2 b0 b1
            | true =>
              cases b2 : inB (usesB 4 2) att 2 21 with
              | false => exact chk_a2 t job due att run why whn _ _ _ _ _ w rfl rfl rfl rfl rfl ht hd a2 b0 b1 b2
              | true =>
                cases b3 : inB (usesB 4 4) run 1 9223372036854775807 with
                | false => exact chk_a3 t job due att run why whn _ _ _ _ _ w rfl rfl rfl rfl rfl ht hd a2 b0 b1 b2 b3
                | true =>
                  cases b4 : inB (usesB 4 8) whn (t + 1) 4611686018427387904 with
                  | false => exact chk_a4 t job due att run why whn _ _ _ _ _ w rfl rfl rfl rfl rfl ht hd a2 b0 b1 b2 b3 b4
                  | true =>
                    cases b5 : inB (usesB 4 16) why 1 (whyK 4) with
                    | false => exact chk_a5 t job due att run why whn _ _ _ _ _ w rfl rfl rfl rfl rfl ht hd a2 b0 b1 b2 b3 b4 b5
                    | true => exact chk_a6 t job due att run why whn _ _ _ _ _ w rfl rfl rfl rfl rfl ht hd a2 b0 b1 b2 b3 b4 b5
        · rw [if_neg h4] at hf
          rw [hf]
          cases b0 : inB (usesB k 1) job 0 63 with
          | false => exact chk_b0 k t job due att run why whn _ _ _ _ _ hk1 hk8 w rfl rfl rfl rfl rfl ⟨h4, h5⟩ ht hd a2 b0
          | true =>
            cases b1 : inB (usesB k 2) due 0 t with
            | false => exact chk_b1 k t job due att run why whn _ _ _ _ _ hk1 hk8 w rfl rfl rfl rfl rfl ⟨h4, h5⟩ ht hd a2 b0 b1
            | true =>
              cases b2 : inB (usesB k 2) att 1 21 with
              | false => exact chk_b2 k t job due att run why whn _ _ _ _ _ hk1 hk8 w rfl rfl rfl rfl rfl ⟨h4, h5⟩ ht hd a2 b0 b1 b2
              | true =>
                cases b3 : inB (usesB k 4) run 1 9223372036854775807 with
                | false => exact chk_b3 k t job due att run why whn _ _ _ _ _ hk1 hk8 w rfl rfl rfl rfl rfl ⟨h4, h5⟩ ht hd a2 b0 b1 b2 b3
                | true =>
                  cases b4 : inB (usesB k 8) whn (t + 1) 4611686018427387904 with
                  | false => exact chk_b4 k t job due att run why whn _ _ _ _ _ hk1 hk8 w rfl rfl rfl rfl rfl ⟨h4, h5⟩ ht hd a2 b0 b1 b2 b3 b4
                  | true =>
                    cases b5 : inB (usesB k 16) why 1 (whyK k) with
                    | false => exact chk_b5 k t job due att run why whn _ _ _ _ _ hk1 hk8 w rfl rfl rfl rfl rfl ⟨h4, h5⟩ ht hd a2 b0 b1 b2 b3 b4 b5
                    | true => exact chk_b6 k t job due att run why whn _ _ _ _ _ hk1 hk8 w rfl rfl rfl rfl rfl ⟨h4, h5⟩ ht hd a2 b0 b1 b2 b3 b4 b5
    · rw [decide_eq_false h5] at a2
      rw [if_neg (by
        simp only [Bool.true_eq_false, false_or]
        intro ⟨h, _⟩
        have h : (k : Int) ≤ 5 := h
        omega)]
      rw [if_neg (by omega)] at hf
      rw [hf]
      have h5 : 5 < k := by omega
      cases b0 : inB (usesB k 1) job 0 63 with
      | false => exact chk_c0 k t job due att run why whn _ _ _ _ _ hk1 hk8 w rfl rfl rfl rfl rfl h5 ht a2 b0
      | true =>
        cases b1 : inB (usesB k 2) due 0 t with
        | false => exact chk_c1 k t job due att run why whn _ _ _ _ _ hk1 hk8 w rfl rfl rfl rfl rfl h5 ht a2 b0 b1
        | true =>
          cases b2 : inB (usesB k 2) att 1 21 with
          | false => exact chk_c2 k t job due att run why whn _ _ _ _ _ hk1 hk8 w rfl rfl rfl rfl rfl h5 ht a2 b0 b1 b2
          | true =>
            cases b3 : inB (usesB k 4) run 1 9223372036854775807 with
            | false => exact chk_c3 k t job due att run why whn _ _ _ _ _ hk1 hk8 w rfl rfl rfl rfl rfl h5 ht a2 b0 b1 b2 b3
            | true =>
              cases b4 : inB (usesB k 8) whn (t + 1) 4611686018427387904 with
              | false => exact chk_c4 k t job due att run why whn _ _ _ _ _ hk1 hk8 w rfl rfl rfl rfl rfl h5 ht a2 b0 b1 b2 b3 b4
              | true =>
                cases b5 : inB (usesB k 16) why 1 (whyK k) with
                | false => exact chk_c5 k t job due att run why whn _ _ _ _ _ hk1 hk8 w rfl rfl rfl rfl rfl h5 ht a2 b0 b1 b2 b3 b4 b5
                | true => exact chk_c6 k t job due att run why whn _ _ _ _ _ hk1 hk8 w rfl rfl rfl rfl rfl h5 ht a2 b0 b1 b2 b3 b4 b5
/-- Check of an event. -/
theorem chk66_c (e : Ev) (hr : e.run ≤ 9223372036854775807) (w : World) : Calls Try.prog 66 #[evV e] w fun r w' => r = .returned (.int .i64 (Tr.chk e)) ∧ Kept (fun _ => False) w w' := by
  obtain ⟨kd, t, job, due, att, run, why, whn⟩ := e
  by_cases h1 : kd < 1
  · have : Tr.chk ⟨kd, t, job, due, att, run, why, whn⟩ = 2 := by unfold Tr.chk; rw [if_pos (.inl h1)]
    rw [this]; exact chk_low kd t job due att run why whn h1 w
  · by_cases h8 : 8 < kd
    · have : Tr.chk ⟨kd, t, job, due, att, run, why, whn⟩ = 2 := by unfold Tr.chk; rw [if_pos (.inr h8)]
      rw [this]; exact chk_high kd t job due att run why whn h8 w
    · obtain ⟨k, rfl⟩ : ∃ k : Nat, (k : Int) = kd := ⟨kd.toNat, by omega⟩
      exact chk66_k k t job due att run why whn (by omega) (by omega) hr w
end Go.Proofs.Ytfhlllmicobafaa

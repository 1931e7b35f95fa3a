/- TrLaws1: texts for the statements of this seat: contracts of functions, walks, plain laws. Conditions: none. -/
import Derived.Test.YtfhlllmicobafaaTrWorks
import Derived.Test.YtfhlllmicobafaaTrRefs2
import Derived.Test.YtfhlllmicobafaaTrRefs3
import Derived.Test.YtfhlllmicobafaaTrDelay
set_option linter.all false
/- The walks of TraceChecks, TraceRuns, TraceTimes. -/
namespace Go.Proofs.Ytfhlllmicobafaa
open Go.RowKit
open Tr (Ev ofB)
theorem few_b {w : World} {a : Option Addr} {n c : Nat} (b : Bool) (h : decide (n ≤ 150) = b) : Calls Try.prog 13 #[.slice a n c] w fun e w' => e = .returned (.bool b) ∧ w = w' := h ▸ few_c
set_option maxRecDepth 100000 in
set_option maxHeartbeats 4000000 in
theorem checks_w {w : World} {v : Value} {l : List Ev} (h : Evs w v l) (hz : Nz v) (hw : EvW l) (jobs : Int) : Calls Try.prog 4 #[v, .int .i64 jobs] w (Tru w) := by
  have HQ := Lib.hid h
  have HZ := Lib.hid hz
  have HW := Lib.hid hw
  obtain ⟨aa, cap, rfl⟩ := h.len
  by_cases hf : l.length ≤ 150
  · have HFW := Lib.hid (few_b (w := w) (a := aa) (c := cap) true (decide_eq_true hf))
    have HCL := Lib.hid (clone20_c h hz (by omega))
    obtain ⟨N, hN⟩ : ∃ N : Nat, N = l.length := ⟨_, rfl⟩
    rw [← hN] at hf HFW HCL HQ ⊢
    have HN := Lib.hid hN
    clear h hw hz hN
    go_enter Try.func4, Try.ntmps4
    go_wp2_with (go_at_call 13; fail)
    refine HFW.out.mono ?_
    rintro e w0 ⟨rfl, rfl⟩
    go_wp2_with (go_at_call 20; fail)
    refine HCL.out.mono ?_
    rintro e w1 ⟨u, rfl, hu⟩
    have HK1 := Lib.hid hu.2.2
    have HU := Lib.hid (hu.rows evC_len)
    have HC1 := Lib.hid (check_c HU.out HW.out (by rw [← HN.out]; omega) jobs)
    obtain ⟨i, hi⟩ : ∃ i, (Tr.check jobs l).1 = i := ⟨_, rfl⟩
    obtain ⟨c, hc⟩ : ∃ c, (Tr.check jobs l).2 = c := ⟨_, rfl⟩
    have HI := Lib.hid hi
    have HCC := Lib.hid hc
    rw [hi, hc] at HC1
    clear hu hi hc HCL HFW HZ
    go_wp2_with (go_at_call 21; fail)
    refine HC1.out.mono ?_
    rintro e w2 ⟨rfl, K2⟩
    have HK2 := Lib.hid (HK1.out.trans K2 (fun _ _ h => h))
    have HU2 := Lib.hid (HU.out.same K2)
    have HC2 := Lib.hid (rcheck_c (HQ.out.same HK2.out) HW.out (by rw [← HN.out]; omega) jobs)
    rw [HI.out, HCC.out] at HC2
    clear K2 HU HC1 HK1
    go_wp2_with (go_at_call 22; fail)
    refine HC2.out.mono ?_
    rintro e w3 ⟨rfl, K3⟩
    have HK3 := Lib.hid (HK2.out.trans K3 (fun _ _ h => h))
    have HEQ := Lib.hid (equal23_c (HU2.out.same K3) (HQ.out.same HK3.out) (by rw [← HN.out]; omega) (by rw [← HN.out]; omega))
    rw [decide_eq_true rfl] at HEQ
    clear K3 HU2 HC2 HK2
    go_wp2_with (go_at_call 23; fail)
    refine HEQ.out.mono ?_
    rintro e w4 ⟨rfl, K4⟩
    have HK4 := Lib.hid (HK3.out.trans K4 (fun _ _ h => h))
    clear K4 HK3 HEQ
    go_wp2_with (go_at_call 14; fail)
    refine (works_c w4).mono ?_
    rintro e w5 ⟨rfl, K5⟩
    have HK5 := Lib.hid (HK4.out.trans K5 (fun _ _ h => h))
    clear K5
    go_wp2
    go_ret
    exact ⟨rfl, HK5.out⟩
  · have HFW := Lib.hid (few_b (w := w) (a := aa) (c := cap) false (decide_eq_false hf))
    clear h hw hz HQ HZ HW
    generalize l.length = N at hf HFW ⊢
    go_enter Try.func4, Try.ntmps4
    go_wp2_with (go_at_call 13; fail)
    refine HFW.out.mono ?_
    rintro e w0 ⟨rfl, rfl⟩
    go_wp2_with (go_at_call 14; fail)
    refine (works_c w).mono ?_
    rintro e w5 ⟨rfl, K5⟩
    have HK5 := Lib.hid K5
    clear K5
    go_wp2
    go_ret
    exact ⟨rfl, HK5.out⟩

set_option maxRecDepth 100000 in
set_option maxHeartbeats 4000000 in
theorem runs_w {w : World} {v : Value} {l : List Ev} (h : Evs w v l) (hw : EvW l) (n job : Int) : Calls Try.prog 3 #[v, .int .i64 n, .int .i64 job] w (Tru w) := by
  have HQ := Lib.hid h
  have HW := Lib.hid hw
  obtain ⟨aa, cap, rfl⟩ := h.len
  by_cases hf : l.length ≤ 150
  · have HFW := Lib.hid (few_b (w := w) (a := aa) (c := cap) true (decide_eq_true hf))
    obtain ⟨c1, hc1⟩ : ∃ c, wrongE l n 0 l.length = c := ⟨_, rfl⟩
    obtain ⟨xs, hxs⟩ : ∃ c, (if wrongE l n 0 l.length = 0 then runs l n.toNat else []) = c := ⟨_, rfl⟩
    obtain ⟨c2, hc2⟩ : ∃ c, (if wrongE l job (-1) 63 = 0 then (mf (picks isEnd job l l.length)).2 else 0) = c := ⟨_, rfl⟩
    obtain ⟨c3, hc3⟩ : ∃ c, wrongE l job (-1) 63 = c := ⟨_, rfl⟩
    have HXL : Hid (xs.length ≤ 1000000) := Lib.hid (by
      rw [← hxs]
      split
      · unfold runs
        rw [List.length_map]
        have := und_len (l.take n.toNat)
        rw [List.length_take] at this
        omega
      · simp)
    have HC1 : Hid (Calls Try.prog 15 #[.slice aa l.length cap, .int .i64 n] w fun e w' => ∃ v, e = .returned (.tuple #[v, .int .i64 c1]) ∧ IRO3 w w' v xs) := Lib.hid ((running_c h hw (by omega) n).mono fun e w' q => by
      obtain ⟨v, q1, q2⟩ := q
      rw [hc1] at q1
      rw [hxs] at q2
      exact ⟨v, q1, q2⟩)
    have HC2 : Hid (∀ W, Kept (fun _ => False) w W → Calls Try.prog 16 #[.slice aa l.length cap, .int .i64 n] W fun e w' => ∃ v, e = .returned (.tuple #[v, .int .i64 c1]) ∧ IRO3 W w' v xs) := Lib.hid fun W K => (rrunning_c (h.same K) hw (by omega) n).mono fun e w' q => by
      obtain ⟨v, q1, q2⟩ := q
      rw [hc1] at q1
      rw [hxs] at q2
      exact ⟨v, q1, q2⟩
    have HC3 : Hid (∀ W, Kept (fun _ => False) w W → Calls Try.prog 17 #[.slice aa l.length cap, .int .i64 job] W fun e w' => e = .returned (.tuple #[.int .i64 c2, .int .i64 c3]) ∧ Kept (fun _ => False) W w') := Lib.hid fun W K => (callsIn_wide.1 (most_in 4 (Nat.le_refl _) (h.same K) hw (by omega) job)).mono fun e w' q => by
      obtain ⟨q1, q2⟩ := q
      rw [hc2, hc3] at q1
      exact ⟨q1, q2⟩
    have HC4 : Hid (∀ W, Kept (fun _ => False) w W → Calls Try.prog 18 #[.slice aa l.length cap, .int .i64 job] W fun e w' => e = .returned (.tuple #[.int .i64 c2, .int .i64 c3]) ∧ Kept (fun _ => False) W w') := Lib.hid fun W K => (rmost_c (h.same K) hw (by omega) job).mono fun e w' q => by
      obtain ⟨q1, q2⟩ := q
      rw [hc2, hc3] at q1
      exact ⟨q1, q2⟩
    clear hc1 hxs hc2 hc3
    obtain ⟨N, hN⟩ : ∃ N : Nat, N = l.length := ⟨_, rfl⟩
    rw [← hN] at hf HFW HQ HC1 HC2 HC3 HC4 ⊢
    have HN := Lib.hid hN
    clear h hw hN
    go_enter Try.func3, Try.ntmps3
    go_wp2_with (go_at_call 13; fail)
    refine HFW.out.mono ?_
    rintro e w0 ⟨rfl, rfl⟩
    go_wp2_with (go_at_call 15; fail)
    refine HC1.out.mono ?_
    rintro e w1 ⟨va, rfl, ha⟩
    have HA := Lib.hid ha.ints
    have HK1 := Lib.hid ha.2.2
    clear ha HC1 HFW
    go_wp2_with (go_at_call 16; fail)
    refine (HC2.out _ HK1.out).mono ?_
    rintro e w2 ⟨vb, rfl, hb⟩
    have HB := Lib.hid hb.ints
    have HA2 := Lib.hid (HA.out.same hb.2.2)
    have HK2 := Lib.hid (HK1.out.trans hb.2.2 (fun _ _ h => h))
    clear hb HC2 HA HK1
    go_wp2_with (go_at_call 17; fail)
    refine (HC3.out _ HK2.out).mono ?_
    rintro e w3 ⟨rfl, K3⟩
    have HK3 := Lib.hid (HK2.out.trans K3 (fun _ _ h => h))
    have HA3 := Lib.hid (HA2.out.same K3)
    have HB3 := Lib.hid (HB.out.same K3)
    clear K3 HA2 HB HK2 HC3
    go_wp2_with (go_at_call 18; fail)
    refine (HC4.out _ HK3.out).mono ?_
    rintro e w4 ⟨rfl, K4⟩
    have HK4 := Lib.hid (HK3.out.trans K4 (fun _ _ h => h))
    have HA4 := Lib.hid (HA3.out.same K4)
    have HB4 := Lib.hid (HB3.out.same K4)
    clear K4 HA3 HB3 HK3 HC4
    have HEQ := Lib.hid (equal19_c HA4.out HB4.out HXL.out HXL.out)
    rw [decide_eq_true rfl] at HEQ
    go_wp2_with (go_at_call 19; fail)
    refine HEQ.out.mono ?_
    rintro e w5 ⟨rfl, q, rfl⟩
    have HK5 := Lib.hid (HK4.out.drewN q)
    clear HEQ HK4
    go_wp2_with (go_at_call 14; fail)
    refine (works_c _).mono ?_
    rintro e w6 ⟨rfl, K6⟩
    have HK6 := Lib.hid (HK5.out.trans K6 (fun _ _ h => h))
    clear K6
    go_wp2
    go_ret
    exact ⟨rfl, HK6.out⟩
  · have HFW := Lib.hid (few_b (w := w) (a := aa) (c := cap) false (decide_eq_false hf))
    clear h hw HQ HW
    generalize l.length = N at hf HFW ⊢
    go_enter Try.func3, Try.ntmps3
    go_wp2_with (go_at_call 13; fail)
    refine HFW.out.mono ?_
    rintro e w0 ⟨rfl, rfl⟩
    go_wp2_with (go_at_call 14; fail)
    refine (works_c w).mono ?_
    rintro e w5 ⟨rfl, K5⟩
    have HK5 := Lib.hid K5
    clear K5
    go_wp2
    go_ret
    exact ⟨rfl, HK5.out⟩

set_option maxRecDepth 100000 in
set_option maxHeartbeats 4000000 in
theorem times_w {w : World} {v : Value} {l : List Ev} (h : Evs w v l) (hw : EvW l) (job : Int) : Calls Try.prog 5 #[v, .int .i64 job] w (Tru w) := by
  have HQ := Lib.hid h
  have HW := Lib.hid hw
  obtain ⟨aa, cap, rfl⟩ := h.len
  by_cases hf : l.length ≤ 150
  · have HFW := Lib.hid (few_b (w := w) (a := aa) (c := cap) true (decide_eq_true hf))
    obtain ⟨xs, hxs⟩ : ∃ c, (if wrongE l job (-1) 63 = 0 then (picks (fun e => e.kind == 1) job l l.length).map (fun p => p.2.t) else []) = c := ⟨_, rfl⟩
    obtain ⟨c2, hc2⟩ : ∃ c, (if wrongE l job (-1) 63 = 0 then dfold (picks isFirst job l l.length) else 0) = c := ⟨_, rfl⟩
    obtain ⟨c3, hc3⟩ : ∃ c, wrongE l job (-1) 63 = c := ⟨_, rfl⟩
    have HXL : Hid (xs.length ≤ 1000000) := Lib.hid (by
      rw [← hxs]
      split
      · rw [List.length_map]
        have := picks_len (fun e => e.kind == 1) job l l.length
        omega
      · simp)
    have HC1 : Hid (Calls Try.prog 24 #[.slice aa l.length cap, .int .i64 job] w fun e w' => ∃ v, e = .returned (.tuple #[v, .int .i64 c3]) ∧ IRO w w' v xs) := Lib.hid ((callsIn_wide.1 (laun_in 4 (Nat.le_refl _) h hw (by omega) job)).mono fun e w' q => by
      obtain ⟨v, q1, q2⟩ := q
      rw [hc3] at q1
      rw [hxs] at q2
      exact ⟨v, q1, q2⟩)
    have HC2 : Hid (∀ W, Kept (fun _ => False) w W → Calls Try.prog 25 #[.slice aa l.length cap, .int .i64 job] W fun e w' => ∃ v, e = .returned (.tuple #[v, .int .i64 c3]) ∧ IRO W w' v xs) := Lib.hid fun W K => (rlaun_c (h.same K) hw (by omega) job).mono fun e w' q => by
      obtain ⟨v, q1, q2⟩ := q
      rw [hc3] at q1
      rw [hxs] at q2
      exact ⟨v, q1, q2⟩
    have HC3 : Hid (∀ W, Kept (fun _ => False) w W → Calls Try.prog 26 #[.slice aa l.length cap, .int .i64 job] W fun e w' => e = .returned (.tuple #[.int .i64 c2, .int .i64 c3]) ∧ Kept (fun _ => False) W w') := Lib.hid fun W K => (callsIn_wide.1 (delay_in 4 (Nat.le_refl _) (h.same K) hw (by omega) job)).mono fun e w' q => by
      obtain ⟨q1, q2⟩ := q
      rw [hc2, hc3] at q1
      exact ⟨q1, q2⟩
    have HC4 : Hid (∀ W, Kept (fun _ => False) w W → Calls Try.prog 27 #[.slice aa l.length cap, .int .i64 job] W fun e w' => e = .returned (.tuple #[.int .i64 c2, .int .i64 c3]) ∧ Kept (fun _ => False) W w') := Lib.hid fun W K => (rdelay_c (h.same K) hw (by omega) job).mono fun e w' q => by
      obtain ⟨q1, q2⟩ := q
      rw [hc2, hc3] at q1
      exact ⟨q1, q2⟩
    clear hxs hc2 hc3
    obtain ⟨N, hN⟩ : ∃ N : Nat, N = l.length := ⟨_, rfl⟩
    rw [← hN] at hf HFW HQ HC1 HC2 HC3 HC4 ⊢
    have HN := Lib.hid hN
    clear h hw hN
    go_enter Try.func5, Try.ntmps5
    go_wp2_with (go_at_call 13; fail)
    refine HFW.out.mono ?_
    rintro e w0 ⟨rfl, rfl⟩
    go_wp2_with (go_at_call 24; fail)
    refine HC1.out.mono ?_
    rintro e w1 ⟨va, rfl, ha⟩
    have HA := Lib.hid ha.ints
    have HK1 := Lib.hid ha.2.2
    clear ha HC1 HFW
    go_wp2_with (go_at_call 25; fail)
    refine (HC2.out _ HK1.out).mono ?_
    rintro e w2 ⟨vb, rfl, hb⟩
    have HB := Lib.hid hb.ints
    have HA2 := Lib.hid (HA.out.same hb.2.2)
    have HK2 := Lib.hid (HK1.out.trans hb.2.2 (fun _ _ h => h))
    clear hb HC2 HA HK1
    go_wp2_with (go_at_call 26; fail)
    refine (HC3.out _ HK2.out).mono ?_
    rintro e w3 ⟨rfl, K3⟩
    have HK3 := Lib.hid (HK2.out.trans K3 (fun _ _ h => h))
    have HA3 := Lib.hid (HA2.out.same K3)
    have HB3 := Lib.hid (HB.out.same K3)
    clear K3 HA2 HB HK2 HC3
    go_wp2_with (go_at_call 27; fail)
    refine (HC4.out _ HK3.out).mono ?_
    rintro e w4 ⟨rfl, K4⟩
    have HK4 := Lib.hid (HK3.out.trans K4 (fun _ _ h => h))
    have HA4 := Lib.hid (HA3.out.same K4)
    have HB4 := Lib.hid (HB3.out.same K4)
    clear K4 HA3 HB3 HK3 HC4
    have HEQ := Lib.hid (equal28_c HA4.out HB4.out HXL.out HXL.out)
    rw [decide_eq_true rfl] at HEQ
    go_wp2_with (go_at_call 28; fail)
    refine HEQ.out.mono ?_
    rintro e w5 ⟨rfl, q, rfl⟩
    have HK5 := Lib.hid (HK4.out.drewN q)
    clear HEQ HK4
    go_wp2_with (go_at_call 14; fail)
    refine (works_c _).mono ?_
    rintro e w6 ⟨rfl, K6⟩
    have HK6 := Lib.hid (HK5.out.trans K6 (fun _ _ h => h))
    clear K6
    go_wp2
    go_ret
    exact ⟨rfl, HK6.out⟩
  · have HFW := Lib.hid (few_b (w := w) (a := aa) (c := cap) false (decide_eq_false hf))
    clear h hw HQ HW
    generalize l.length = N at hf HFW ⊢
    go_enter Try.func5, Try.ntmps5
    go_wp2_with (go_at_call 13; fail)
    refine HFW.out.mono ?_
    rintro e w0 ⟨rfl, rfl⟩
    go_wp2_with (go_at_call 14; fail)
    refine (works_c w).mono ?_
    rintro e w5 ⟨rfl, K5⟩
    have HK5 := Lib.hid K5
    clear K5
    go_wp2
    go_ret
    exact ⟨rfl, HK5.out⟩
end Go.Proofs.Ytfhlllmicobafaa

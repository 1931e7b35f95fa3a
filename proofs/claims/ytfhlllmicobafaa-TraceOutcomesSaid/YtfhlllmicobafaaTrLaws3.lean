/- TrLaws3: texts for the statements of this seat: contracts of functions, walks, plain laws. Conditions: none. -/
import Derived.Test.YtfhlllmicobafaaTrLaws1
import Derived.Test.YtfhlllmicobafaaTrRFirsts
import Derived.Test.YtfhlllmicobafaaTrREnds
set_option linter.all false
/- The walk of TraceOutcomes. -/
namespace Go.Proofs.Ytfhlllmicobafaa
open Go.RowKit
open Tr (Ev ofB)
theorem ins_len (y : Int) (s : List Int) : (Tr.ins y s).length ≤ s.length + 1 := by
  induction s with
  | nil => simp [Tr.ins]
  | cons a s ih =>
    unfold Tr.ins
    split
    · simp only [List.length_cons]; omega
    · split <;> simp
theorem firstsR_len (job : Int) (l : List Ev) : (Tr.firstsR job l).length ≤ l.length := by
  have : ∀ (m s : List Int), (m.foldl (fun s y => Tr.ins y s) s).length ≤ s.length + m.length := by
    intro m
    induction m with
    | nil => intro s; simp
    | cons a m ih =>
      intro s
      have h1 := ih (Tr.ins a s)
      have h2 := ins_len a s
      simp only [List.foldl_cons, List.length_cons]
      omega
  have h1 := this (Tr.dues job l) []
  have h2 : (Tr.dues job l).length ≤ l.length := by
    unfold Tr.dues
    rw [List.length_map]
    exact List.length_filter_le _ _
  unfold Tr.firstsR
  simp at h1
  omega
set_option maxRecDepth 100000 in
set_option maxHeartbeats 4000000 in
theorem outcomes_w {w : World} {v : Value} {l : List Ev} (h : Evs w v l) (hw : EvW l) (job due : Int) : Calls Try.prog 9 #[v, .int .i64 job, .int .i64 due] w (Tru w) := by
  have HQ := Lib.hid h
  have HW := Lib.hid hw
  obtain ⟨aa, cap, rfl⟩ := h.len
  by_cases hf : l.length ≤ 150
  · have HFW := Lib.hid (few_b (w := w) (a := aa) (c := cap) true (decide_eq_true hf))
    obtain ⟨xs, hxs⟩ : ∃ c, (if wrongE l job 0 63 = 0 then Tr.firstsR job l else []) = c := ⟨_, rfl⟩
    obtain ⟨c2, hc2⟩ : ∃ c, (endsR l job due).1 = c := ⟨_, rfl⟩
    obtain ⟨c4, hc4⟩ : ∃ c, (endsR l job due).2 = c := ⟨_, rfl⟩
    obtain ⟨c5, hc5⟩ : ∃ c, endsC l job due = c := ⟨_, rfl⟩
    obtain ⟨c3, hc3⟩ : ∃ c, wrongE l job 0 63 = c := ⟨_, rfl⟩
    have HXL : Hid (xs.length ≤ 1000000) := Lib.hid (by
      rw [← hxs]
      split
      · have := firstsR_len job l; omega
      · simp)
    have HC1 : Hid (Calls Try.prog 35 #[.slice aa l.length cap, .int .i64 job] w fun e w' => ∃ v, e = .returned (.tuple #[v, .int .i64 c3]) ∧ IRO w w' v xs) := Lib.hid ((callsIn_wide.1 (firsts_in 4 (Nat.le_refl _) h hw (by omega) job)).mono fun e w' q => by
      obtain ⟨v, q1, q2⟩ := q
      rw [hc3] at q1
      rw [hxs] at q2
      exact ⟨v, q1, q2⟩)
    have HC2 : Hid (∀ W, Kept (fun _ => False) w W → Calls Try.prog 36 #[.slice aa l.length cap, .int .i64 job] W fun e w' => ∃ v, e = .returned (.tuple #[v, .int .i64 c3]) ∧ IRO W w' v xs) := Lib.hid fun W K => (rfirsts_c (h.same K) hw (by omega) job).mono fun e w' q => by
      obtain ⟨v, q1, q2⟩ := q
      rw [hc3] at q1
      rw [hxs] at q2
      exact ⟨v, q1, q2⟩
    have HC3 : Hid (∀ W, Kept (fun _ => False) w W → Calls Try.prog 37 #[.slice aa l.length cap, .int .i64 job, .int .i64 due] W fun e w' => e = .returned (.tuple #[.int .i64 c2, .bool c4, .int .i64 c5]) ∧ Kept (fun _ => False) W w') := Lib.hid fun W K => (callsIn_wide.1 (ends_in 4 (Nat.le_refl _) (h.same K) hw (by omega) job due)).mono fun e w' q => by
      obtain ⟨q1, q2⟩ := q
      rw [hc2, hc4, hc5] at q1
      exact ⟨q1, q2⟩
    have HC4 : Hid (∀ W, Kept (fun _ => False) w W → Calls Try.prog 38 #[.slice aa l.length cap, .int .i64 job, .int .i64 due] W fun e w' => e = .returned (.tuple #[.int .i64 c2, .bool c4, .int .i64 c5]) ∧ Kept (fun _ => False) W w') := Lib.hid fun W K => (rends_c (h.same K) hw (by omega) job due).mono fun e w' q => by
      obtain ⟨q1, q2⟩ := q
      rw [hc2, hc4, hc5] at q1
      exact ⟨q1, q2⟩
    clear hxs hc2 hc3 hc4 hc5
    obtain ⟨N, hN⟩ : ∃ N : Nat, N = l.length := ⟨_, rfl⟩
    rw [← hN] at hf HFW HQ HC1 HC2 HC3 HC4 ⊢
    have HN := Lib.hid hN
    clear h hw hN
    go_enter Try.func9, Try.ntmps9
    go_wp2_with (go_at_call 13; fail)
    refine HFW.out.mono ?_
    rintro e w0 ⟨rfl, rfl⟩
    go_wp2_with (go_at_call 35; fail)
    refine HC1.out.mono ?_
    rintro e w1 ⟨va, rfl, ha⟩
    have HA := Lib.hid ha.ints
    have HK1 := Lib.hid ha.2.2
    clear ha HC1 HFW
    go_wp2_with (go_at_call 36; fail)
    refine (HC2.out _ HK1.out).mono ?_
    rintro e w2 ⟨vb, rfl, hb⟩
    have HB := Lib.hid hb.ints
    have HA2 := Lib.hid (HA.out.same hb.2.2)
    have HK2 := Lib.hid (HK1.out.trans hb.2.2 (fun _ _ h => h))
    clear hb HC2 HA HK1
    go_wp2_with (go_at_call 37; fail)
    refine (HC3.out _ HK2.out).mono ?_
    rintro e w3 ⟨rfl, K3⟩
    have HK3 := Lib.hid (HK2.out.trans K3 (fun _ _ h => h))
    have HA3 := Lib.hid (HA2.out.same K3)
    have HB3 := Lib.hid (HB.out.same K3)
    clear K3 HA2 HB HK2 HC3
    go_wp2_with (go_at_call 38; fail)
    refine (HC4.out _ HK3.out).mono ?_
    rintro e w4 ⟨rfl, K4⟩
    have HK4 := Lib.hid (HK3.out.trans K4 (fun _ _ h => h))
    have HA4 := Lib.hid (HA3.out.same K4)
    have HB4 := Lib.hid (HB3.out.same K4)
    clear K4 HA3 HB3 HK3 HC4
    have HEQ := Lib.hid (equal28_c HA4.out HB4.out HXL.out HXL.out)
    rw [decide_eq_true rfl] at HEQ
    go_wp2_with (go_at_call 28; fail)
    refine HEQ.out.mono ?_
    rintro e w5 ⟨rfl, q, rfl⟩
    have HK5 := Lib.hid (HK4.out.drewN q)
    clear HEQ HK4
    go_wp2_with (go_at_call 14; fail)
    refine (works_c _).mono ?_
    rintro e w6 ⟨rfl, K6⟩
    have HK6 := Lib.hid (HK5.out.trans K6 (fun _ _ h => h))
    clear K6
    go_wp2
    go_ret
    exact ⟨rfl, HK6.out⟩
  · have HFW := Lib.hid (few_b (w := w) (a := aa) (c := cap) false (decide_eq_false hf))
    clear h hw HQ HW
    generalize l.length = N at hf HFW ⊢
    go_enter Try.func9, Try.ntmps9
    go_wp2_with (go_at_call 13; fail)
    refine HFW.out.mono ?_
    rintro e w0 ⟨rfl, rfl⟩
    go_wp2_with (go_at_call 14; fail)
    refine (works_c w).mono ?_
    rintro e w5 ⟨rfl, K5⟩
    have HK5 := Lib.hid K5
    clear K5
    go_wp2
    go_ret
    exact ⟨rfl, HK5.out⟩
end Go.Proofs.Ytfhlllmicobafaa

/- TrLaws2: texts for the statements of this seat: contracts of functions, walks, plain laws. Conditions: none. -/
import Derived.Test.YtfhlllmicobafaaTrLaws1
import Derived.Test.YtfhlllmicobafaaTrPrefix
set_option linter.all false
/- The walk of TraceParts. -/
namespace Go.Proofs.Ytfhlllmicobafaa
open Go.RowKit
open Tr (Ev ofB)
theorem Try.under49 : Try.prog.underlying 49 = some (.array 9 3) := Try.underlying49
theorem iv9_def (xs : List Int) : iv9 xs = xs.map (Value.int .i64) := rfl
set_option maxRecDepth 100000 in
set_option maxHeartbeats 4000000 in
theorem parts_w {w : World} {v : Value} {l : List Ev} (h : Evs w v l) (hz : Nz v) (hw : EvW l) (now : Int) : Calls Try.prog 7 #[v, .int .i64 now] w (Tru w) := by
  have HQ := Lib.hid h
  have HZ := Lib.hid hz
  have HW := Lib.hid hw
  obtain ⟨aa, cap, rfl⟩ := h.len
  by_cases hf : l.length ≤ 150
  · have HFW := Lib.hid (few_b (w := w) (a := aa) (c := cap) true (decide_eq_true hf))
    have hl3 : (tallyC l).length = 9 := by unfold tallyC; split; exact tally_len l; rfl
    obtain ⟨ts, hts⟩ : ∃ ts, tallyC l = ts := ⟨_, rfl⟩
    obtain ⟨c1, hc1⟩ : ∃ c, Tr.bad 64 l = c := ⟨_, rfl⟩
    obtain ⟨c2, hc2⟩ : ∃ c, prefC l now = c := ⟨_, rfl⟩
    obtain ⟨xs, hxs⟩ : ∃ xs, prefL l now = xs := ⟨_, rfl⟩
    have HXL : Hid (xs.length ≤ 1000000) := Lib.hid (by
      rw [← hxs]
      unfold prefL
      split
      · have := List.length_filter_le (fun x : Ev => decide (x.t ≤ now)) l; omega
      · simp)
    rw [hts] at hl3
    obtain ⟨y0, y1, y2, y3, y4, y5, y6, y7, y8, rfl⟩ : ∃ y0 y1 y2 y3 y4 y5 y6 y7 y8 : Int, ts = [y0, y1, y2, y3, y4, y5, y6, y7, y8] := by
      match ts, hl3 with
      | [y0, y1, y2, y3, y4, y5, y6, y7, y8], _ => exact ⟨_, _, _, _, _, _, _, _, _, rfl⟩
    have HC1 : Hid (∀ W, Kept (fun _ => False) w W → Calls Try.prog 30 #[.slice aa l.length cap] W fun e w' => e = .returned (.tuple #[.agg #[.int .i64 y0, .int .i64 y1, .int .i64 y2, .int .i64 y3, .int .i64 y4, .int .i64 y5, .int .i64 y6, .int .i64 y7, .int .i64 y8], .int .i64 c1]) ∧ Kept (fun _ => False) W w') := Lib.hid fun W K => (tally_c (h.same K) hw (by omega)).mono fun e w' q => by
      obtain ⟨q1, q2⟩ := q
      rw [hts, hc1] at q1
      exact ⟨q1, q2⟩
    have HC2 : Hid (∀ W, Kept (fun _ => False) w W → Calls Try.prog 31 #[.slice aa l.length cap] W fun e w' => e = .returned (.tuple #[.agg #[.int .i64 y0, .int .i64 y1, .int .i64 y2, .int .i64 y3, .int .i64 y4, .int .i64 y5, .int .i64 y6, .int .i64 y7, .int .i64 y8], .int .i64 c1]) ∧ Kept (fun _ => False) W w') := Lib.hid fun W K => (rtally_c (h.same K) hw (by omega)).mono fun e w' q => by
      obtain ⟨q1, q2⟩ := q
      rw [hts, hc1] at q1
      exact ⟨q1, q2⟩
    have HC3 : Hid (∀ W, Kept (fun _ => False) w W → Calls Try.prog 32 #[.slice aa l.length cap, .int .i64 now] W fun e w' => ∃ v, e = .returned (.tuple #[v, .int .i64 c2]) ∧ ERO W w' v xs) := Lib.hid fun W K => (prefix_c (h.same K) hz hw (by omega) now).mono fun e w' q => by
      obtain ⟨v, q1, q2⟩ := q
      rw [hc2] at q1
      rw [hxs] at q2
      exact ⟨v, q1, q2⟩
    have HC4 : Hid (∀ W, Kept (fun _ => False) w W → Calls Try.prog 33 #[.slice aa l.length cap, .int .i64 now] W fun e w' => ∃ v, e = .returned (.tuple #[v, .int .i64 c2]) ∧ ERO W w' v xs) := Lib.hid fun W K => (rprefix_c (h.same K) hw (by omega) now).mono fun e w' q => by
      obtain ⟨v, q1, q2⟩ := q
      rw [hc2] at q1
      rw [hxs] at q2
      exact ⟨v, q1, q2⟩
    have HEQ9 := fun W => run_equalIn9 W [y0, y1, y2, y3, y4, y5, y6, y7, y8] [y0, y1, y2, y3, y4, y5, y6, y7, y8] rfl rfl
    simp only [iv9, List.map_cons, List.map_nil, decide_true] at HEQ9
    obtain ⟨N, hN⟩ : ∃ N : Nat, N = l.length := ⟨_, rfl⟩
    rw [← hN] at hf HFW HC1 HC2 HC3 HC4 HQ ⊢
    clear h hw hz hN hl3 hts hc1 hc2 hxs
    go_enter Try.func7, Try.ntmps7
    go_wp2_with (go_at_call 13; fail)
    refine HFW.out.mono ?_
    rintro e w0 ⟨rfl, rfl⟩
    go_wp2_with (go_at_call 30; fail)
    refine (HC1.out _ (Kept.refl _ _)).mono ?_
    rintro e w1 ⟨rfl, K1⟩
    have r1 := RowAt.new w1 49 #[.int .i64 y0, .int .i64 y1, .int .i64 y2, .int .i64 y3, .int .i64 y4, .int .i64 y5, .int .i64 y6, .int .i64 y7, .int .i64 y8]
    have k1 : Kept (fun _ => False) w1 (w1.alloc (.cells #[.int .i64 y0, .int .i64 y1, .int .i64 y2, .int .i64 y3, .int .i64 y4, .int .i64 y5, .int .i64 y6, .int .i64 y7, .int .i64 y8] 49)) := (Kept.refl _ _).alloc _
    have HR1 := Lib.hid r1
    have HK1 := Lib.hid (K1.trans k1 (fun _ _ h => h))
    clear K1 r1 k1 HFW HC1
    go_wp2_with (go_at_call 31; fail)
    refine (HC2.out _ HK1.out).mono ?_
    rintro e w2 ⟨rfl, K2⟩
    have r2 := RowAt.new w2 49 #[.int .i64 y0, .int .i64 y1, .int .i64 y2, .int .i64 y3, .int .i64 y4, .int .i64 y5, .int .i64 y6, .int .i64 y7, .int .i64 y8]
    have k2 : Kept (fun _ => False) w2 (w2.alloc (.cells #[.int .i64 y0, .int .i64 y1, .int .i64 y2, .int .i64 y3, .int .i64 y4, .int .i64 y5, .int .i64 y6, .int .i64 y7, .int .i64 y8] 49)) := (Kept.refl _ _).alloc _
    have HR2 := Lib.hid r2
    have HR12 := Lib.hid ((HR1.out.same K2).same k2)
    have HK2 := Lib.hid ((HK1.out.trans K2 (fun _ _ h => h)).trans k2 (fun _ _ h => h))
    clear K2 r2 k2 HR1 HK1 HC2
    go_wp2_with (go_at_call 32; fail)
    refine (HC3.out _ HK2.out).mono ?_
    rintro e w3 ⟨va, rfl, ha⟩
    have HA := Lib.hid (ha.rows evC_len)
    have HRA := Lib.hid (HR12.out.same ha.2.2)
    have HRB := Lib.hid (HR2.out.same ha.2.2)
    have HK3 := Lib.hid (HK2.out.trans ha.2.2 (fun _ _ h => h))
    clear ha HR2 HR12 HK2 HC3
    go_wp2_with (go_at_call 33; fail)
    refine (HC4.out _ HK3.out).mono ?_
    rintro e w4 ⟨vb, rfl, hb⟩
    have HB := Lib.hid (hb.rows evC_len)
    have HA4 := Lib.hid (HA.out.same hb.2.2)
    have ra := HRA.out.same hb.2.2
    have rb := HRB.out.same hb.2.2
    have HK4 := Lib.hid (HK3.out.trans hb.2.2 (fun _ _ h => h))
    clear hb HA HRA HRB HK3 HC4
    have a0 := ra.get (j := 0) rfl
    have a1 := ra.get (j := 1) rfl
    have a2 := ra.get (j := 2) rfl
    have a3 := ra.get (j := 3) rfl
    have a4 := ra.get (j := 4) rfl
    have a5 := ra.get (j := 5) rfl
    have a6 := ra.get (j := 6) rfl
    have a7 := ra.get (j := 7) rfl
    have a8 := ra.get (j := 8) rfl
    have al := ra.lt
    have b0 := rb.get (j := 0) rfl
    have b1 := rb.get (j := 1) rfl
    have b2 := rb.get (j := 2) rfl
    have b3 := rb.get (j := 3) rfl
    have b4 := rb.get (j := 4) rfl
    have b5 := rb.get (j := 5) rfl
    have b6 := rb.get (j := 6) rfl
    have b7 := rb.get (j := 7) rfl
    have b8 := rb.get (j := 8) rfl
    have bl := rb.lt
    have he4 := HEQ9 w4
    have HEQ := Lib.hid (equal23_c HA4.out HB.out (by have := HXL.out; omega) (by have := HXL.out; omega))
    rw [decide_eq_true rfl] at HEQ
    clear ra rb HA4 HB HEQ9
    go_wp2_with (go_at_call 23; fail)
    refine HEQ.out.mono ?_
    rintro e w5 ⟨rfl, K5⟩
    have HK5 := Lib.hid (HK4.out.trans K5 (fun _ _ h => h))
    clear K5 HEQ HK4 a0 a1 a2 a3 a4 a5 a6 a7 a8 al b0 b1 b2 b3 b4 b5 b6 b7 b8 bl he4
    go_wp2_with (go_at_call 14; fail)
    refine (works_c _).mono ?_
    rintro e w6 ⟨rfl, K6⟩
    have HK6 := Lib.hid (HK5.out.trans K6 (fun _ _ h => h))
    clear K6
    go_wp2
    go_ret
    exact ⟨rfl, HK6.out⟩
  · have HFW := Lib.hid (few_b (w := w) (a := aa) (c := cap) false (decide_eq_false hf))
    clear h hw hz HQ HW HZ
    generalize l.length = N at hf HFW ⊢
    go_enter Try.func7, Try.ntmps7
    go_wp2_with (go_at_call 13; fail)
    refine HFW.out.mono ?_
    rintro e w0 ⟨rfl, rfl⟩
    go_wp2_with (go_at_call 14; fail)
    refine (works_c w).mono ?_
    rintro e w5 ⟨rfl, K5⟩
    have HK5 := Lib.hid K5
    clear K5
    go_wp2
    go_ret
    exact ⟨rfl, HK5.out⟩
end Go.Proofs.Ytfhlllmicobafaa

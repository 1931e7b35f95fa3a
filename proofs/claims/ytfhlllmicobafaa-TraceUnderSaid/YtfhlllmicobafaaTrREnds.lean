/- TrREnds: texts for the statements of this seat: contracts of functions, walks, plain laws. Conditions: none. -/
import Derived.Test.YtfhlllmicobafaaTrRefs
import Derived.Test.YtfhlllmicobafaaTrEnds
set_option linter.all false
/- Ends of the reference. -/
namespace Go.Proofs.Ytfhlllmicobafaa
open Go.RowKit
open Tr (Ev ofB)
theorem endsR_nil {l : List Ev} {job due : Int} (h0 : endsC l job due = 0) (h : picks (isEndOf due) job l l.length = []) : endsR l job due = (0, false) := by
  unfold endsR; rw [if_neg (by rw [h0]; simp), h]
theorem endsR_at {l : List Ev} {job due : Int} {j : Nat} {x : Ev} (h0 : endsC l job due = 0) (hj : j < l.length) (h : picks (isEndOf due) job l (j + 1) = [(j, x)]) : endsR l job due = ((j : Int), true) := by
  obtain ⟨r, hr⟩ := picks_prefix (isEndOf due) job l (show j + 1 ≤ l.length from hj)
  unfold endsR; rw [if_neg (by rw [h0]; simp), ← hr, h]; rfl

set_option maxRecDepth 100000 in
set_option maxHeartbeats 4000000 in
theorem rends_c {w : World} {v : Value} {l : List Ev} (h : Evs w v l) (hw : EvW l) (hl : l.length ≤ 100000) (job due : Int) :
    Calls Try.prog 38 #[v, .int .i64 job, .int .i64 due] w (EndsPost l job due w) := by
  have HC := Lib.hid (wrong_c h hw (by omega) job 0 63)
  have HQ := Lib.hid h
  obtain ⟨aa, cap, rfl⟩ := h.len
  obtain ⟨N, hN⟩ : ∃ N : Nat, N = l.length := ⟨_, rfl⟩
  obtain ⟨c, hc⟩ : ∃ c, wrongE l job 0 63 = c := ⟨_, rfl⟩
  have HWE := Lib.hid hc
  rw [hc] at HC
  rw [← hN] at hl HC HQ ⊢
  have HN := Lib.hid hN
  clear h hN hw hc
  by_cases hc0 : ¬ c = 0
  · have hb1 : (c != 0) = true := by simpa using hc0
    have hb2 : (c == 0) = false := by simpa using hc0
    have hec : endsC l job due = c := by unfold endsC; rw [if_pos (by rw [HWE.out]; exact hc0), HWE.out]
    have HF : Hid (∀ w1, Kept (fun _ => False) w w1 → EndsPost l job due w (.returned (.tuple #[.int .i64 0, .bool false, .int .i64 c])) w1) := Lib.hid fun w1 K => ⟨by rw [show endsR l job due = (0, false) from by unfold endsR; rw [if_pos (by rw [hec]; exact hc0)], hec], K⟩
    clear hec
    go_enter Try.func38, Try.ntmps38
    go_wp2_with (go_at_call 50; fail)
    refine HC.out.mono ?_
    rintro e w1 ⟨rfl, K1⟩
    have HFF := Lib.hid (HF.out _ K1)
    clear K1 hc0
    go_wp2
    go_ret3
    exact HFF.out
  · obtain rfl := Decidable.not_not.1 hc0
    clear hc0
    by_cases hd0 : due < 0
    · have hec : endsC l job due = 14 := by unfold endsC; rw [if_neg (by rw [HWE.out]; simp), if_pos (.inl hd0)]
      have HF : Hid (∀ w1, Kept (fun _ => False) w w1 → EndsPost l job due w (.returned (.tuple #[.int .i64 0, .bool false, .int .i64 14])) w1) := Lib.hid fun w1 K => ⟨by rw [show endsR l job due = (0, false) from by unfold endsR; rw [if_pos (by rw [hec]; simp)], hec], K⟩
      clear hec
      go_enter Try.func38, Try.ntmps38
      go_wp2_with (go_at_call 50; fail)
      refine HC.out.mono ?_
      rintro e w1 ⟨rfl, K1⟩
      have HFF := Lib.hid (HF.out _ K1)
      clear K1
      go_wp2
      go_ret3
      exact HFF.out
    · by_cases hd1 : 253402300799 < due
      · have hec : endsC l job due = 14 := by unfold endsC; rw [if_neg (by rw [HWE.out]; simp), if_pos (.inr hd1)]
        have HF : Hid (∀ w1, Kept (fun _ => False) w w1 → EndsPost l job due w (.returned (.tuple #[.int .i64 0, .bool false, .int .i64 14])) w1) := Lib.hid fun w1 K => ⟨by rw [show endsR l job due = (0, false) from by unfold endsR; rw [if_pos (by rw [hec]; simp)], hec], K⟩
        clear hec
        go_enter Try.func38, Try.ntmps38
        go_wp2_with (go_at_call 50; fail)
        refine HC.out.mono ?_
        rintro e w1 ⟨rfl, K1⟩
        have HFF := Lib.hid (HF.out _ K1)
        clear K1
        go_wp2
        go_ret3
        exact HFF.out
      · have HEC : Hid (endsC l job due = 0) := Lib.hid (by unfold endsC; rw [if_neg (by rw [HWE.out]; simp), if_neg (by omega)])
        have HJ : Hid (0 ≤ job) := Lib.hid (wrong_ok HWE.out).2.1
        go_enter Try.func38, Try.ntmps38
        go_wp2_with (go_at_call 50; fail)
        refine HC.out.mono ?_
        rintro e w1 ⟨rfl, K1⟩
        have HK1 := Lib.hid K1
        clear K1
        go_wp2
        go_loopw [10] (fun i wr => ∃ j : Nat, j ≤ N ∧ i = .int .i64 j ∧ picks (isEndOf due) job l j = [] ∧ wr = w1) (fun i _ => match i with | .int _ x => (N - x).toNat | _ => 0)
        case atStart => exact ⟨0, Nat.zero_le _, rfl, rfl, rfl⟩
        case round =>
          obtain ⟨j, hj, rfl, hpk, rfl⟩ := hrel
          have HPK := Lib.hid hpk
          clear hpk
          by_cases hlt : j < N
          · obtain ⟨b0, off, cap', hv, hcp, hb0, hrows⟩ := (HQ.out.same HK1.out).pos (by have := HN.out; omega)
            rw [← HN.out] at hv
            injection hv with e1 e2 e3
            subst e1 e3
            have hjl : j < l.length := by have := HN.out; omega
            have HX := Lib.hid (get_of hjl)
            have hx8 := hrows.ev HX.out
            generalize l[j] = x at HX hx8
            have i1 : (0 : Int) ≤ (j : Int) := by omega
            have i2 : (j : Int) < N := by omega
            clear hrows e2
            have HNO : Hid (¬ (ofB job x = true ∧ isEndOf due x = true) → picks (isEndOf due) job l (j + 1) = []) := Lib.hid fun q => by rw [picks_no HX.out q, HPK.out]
            have HYES : Hid (ofB job x = true → isEndOf due x = true → EndsPost l job due w (.returned (.tuple #[.int .i64 j, .bool true, .int .i64 0])) wr) := Lib.hid fun q1 q2 => ⟨by rw [endsR_at HEC.out hjl (by rw [picks_yes HX.out q1 q2, HPK.out]; rfl), HEC.out], HK1.out⟩
            have a0 := hx8.c0
            have a2 := hx8.c2
            have a3 := hx8.c3
            clear hx8
            by_cases k2 : x.kind = 2
            · by_cases kj : x.job = job
              · by_cases kd : x.due = due
                · have t2 : (x.kind == 2) = true := by simpa using k2
                  have tj : (x.job == job) = true := by simpa using kj
                  have td : (x.due == due) = true := by simpa using kd
                  have HQQ := Lib.hid (HYES.out (by simp [ofB, kj]) (by simp [isEndOf, k2, kd]))
                  clear HNO HYES
                  go_wp2
                  go_ret3
                  exact HQQ.out
                · have t2 : (x.kind == 2) = true := by simpa using k2
                  have tj : (x.job == job) = true := by simpa using kj
                  have td : (x.due == due) = false := by simpa using kd
                  have HQQ := Lib.hid (HNO.out (by simp [isEndOf, kd]))
                  clear HNO HYES
                  go_wp2
                  go_roundw
                  case rel => exact ⟨j + 1, by omega, by go_num, HQQ.out, trivial⟩
                  case measure => simp; omega
              · have t2 : (x.kind == 2) = true := by simpa using k2
                have tj : (x.job == job) = false := by simpa using kj
                have HQQ := Lib.hid (HNO.out (by have := HJ.out; intro q; have := q.1; simp [ofB, kj] at this; omega))
                clear HNO HYES
                go_wp2
                go_roundw
                case rel => exact ⟨j + 1, by omega, by go_num, HQQ.out, trivial⟩
                case measure => simp; omega
            · by_cases k5 : x.kind = 5
              · by_cases kj : x.job = job
                · by_cases kd : x.due = due
                  · have t2 : (x.kind == 2) = false := by simpa using k2
                    have t5 : (x.kind == 5) = true := by simpa using k5
                    have tj : (x.job == job) = true := by simpa using kj
                    have td : (x.due == due) = true := by simpa using kd
                    have HQQ := Lib.hid (HYES.out (by simp [ofB, kj]) (by simp [isEndOf, k5, kd]))
                    clear HNO HYES
                    go_wp2
                    go_ret3
                    exact HQQ.out
                  · have t2 : (x.kind == 2) = false := by simpa using k2
                    have t5 : (x.kind == 5) = true := by simpa using k5
                    have tj : (x.job == job) = true := by simpa using kj
                    have td : (x.due == due) = false := by simpa using kd
                    have HQQ := Lib.hid (HNO.out (by simp [isEndOf, kd]))
                    clear HNO HYES
                    go_wp2
                    go_roundw
                    case rel => exact ⟨j + 1, by omega, by go_num, HQQ.out, trivial⟩
                    case measure => simp; omega
                · have t2 : (x.kind == 2) = false := by simpa using k2
                  have t5 : (x.kind == 5) = true := by simpa using k5
                  have tj : (x.job == job) = false := by simpa using kj
                  have HQQ := Lib.hid (HNO.out (by have := HJ.out; intro q; have := q.1; simp [ofB, kj] at this; omega))
                  clear HNO HYES
                  go_wp2
                  go_roundw
                  case rel => exact ⟨j + 1, by omega, by go_num, HQQ.out, trivial⟩
                  case measure => simp; omega
              · have t2 : (x.kind == 2) = false := by simpa using k2
                have t5 : (x.kind == 5) = false := by simpa using k5
                have HQQ := Lib.hid (HNO.out (by simp [isEndOf, k2, k5]))
                clear HNO HYES
                go_wp2
                go_roundw
                case rel => exact ⟨j + 1, by omega, by go_num, HQQ.out, trivial⟩
                case measure => simp; omega
          · obtain rfl : j = N := by omega
            have HFF : Hid (EndsPost l job due w (.returned (.tuple #[.int .i64 0, .bool false, .int .i64 0])) wr) := Lib.hid ⟨by rw [endsR_nil HEC.out (by have := HPK.out; rwa [HN.out] at this), HEC.out], HK1.out⟩
            go_wp2
            go_ret3
            exact HFF.out
end Go.Proofs.Ytfhlllmicobafaa

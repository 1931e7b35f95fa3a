/- The walk of the statement WindowCounts. -/
import Derived.Test.YtelgknecainlfaaWiPeak2
import Derived.Test.YtelgknecainlfaaWiWith3
namespace Go.Proofs.Ytelgknecainlfaa
open Go.RowKit
open Wi (vld Srt chk longE)

theorem maxlen_le {n : Nat} (h : n ≤ maxLen) : n ≤ 9223372036854775807 := by unfold maxLen at h; omega
theorem few_le {n : Nat} (h : fewB n = true) : n ≤ 100010 := by
  simp [fewB] at h
  omega
/-- Two posts that say the same of a value. -/
theorem most_same {l : List Int} {L : Int} {w w1 w2 w3 : World} {e e' : Ending} (h : MostPost l L w e w1) (k : MostPost l L w2 e' w3) : ∃ n : Nat, e = .returned (.tuple #[.int .i64 n, .int .i64 (mostE l L)]) ∧ e' = .returned (.tuple #[.int .i64 n, .int .i64 (mostE l L)]) := by
  obtain ⟨n, rfl, h1, -, -⟩ := h
  obtain ⟨m, rfl, k1, -, -⟩ := k
  have e : n = m := by
    split at h1
    · rename_i q
      rw [if_pos q] at k1
      exact h1.unique k1
    · rename_i q
      rw [if_neg q] at k1
      omega
  subst e
  exact ⟨n, rfl, rfl⟩
set_option maxRecDepth 100000 in
set_option maxHeartbeats 4000000 in
theorem counts_w {w : World} {v : Value} {l : List Int} (h : Ints w v l) (hl : l.length ≤ maxLen) (L a b : Int) : Calls Try.prog 9 #[v, .int .i64 L, .int .i64 a, .int .i64 b] w fun e w' => e = .returned (.bool true) ∧ Kept (fun _ => False) w w' := by
  have HF := Lib.hid (few_c h (maxlen_le hl))
  cases hf : fewB l.length with
  | false =>
    obtain ⟨aa, cap, rfl⟩ := h.len
    clear h hl
    rw [hf] at HF
    generalize l.length = n at HF hf ⊢
    clear hf
    go_enter Try.func9, Try.ntmps9
    go_wp2_with (first | (go_at_call 13; refine HF.out.mono ?_; rintro e w1 ⟨rfl, rfl⟩) | (go_at_call 14; refine works_t.mono ?_; rintro e w2 ⟨rfl, K⟩))
    go_ret
    exact ⟨rfl, K⟩
  | true =>
    have hl' : l.length ≤ 4611686018427387904 := by have := few_le hf; omega
    have HM := Lib.hid (fun W (K : Kept (fun _ => False) w W) => most_c (h.same K) hl' L)
    have HR := Lib.hid (fun W (K : Kept (fun _ => False) w W) => rmost_c (h.same K) hl' L)
    have HW := Lib.hid (fun W (K : Kept (fun _ => False) w W) => within_c (h.same K) hl' a b)
    have HV := Lib.hid (fun W (K : Kept (fun _ => False) w W) => rwithin_c (h.same K) hl' a b)
    have HC := Lib.hid (fun W (K : Kept (fun _ => False) w W) => check_c (h.same K) hl')
    have HD := Lib.hid (fun W (K : Kept (fun _ => False) w W) => rcheck_c (h.same K) hl')
    obtain ⟨aa, cap, rfl⟩ := h.len
    clear h hl hl'
    rw [hf] at HF
    clear hf
    generalize l.length = n at HF HM HR HW HV HC HD ⊢
    go_enter Try.func9, Try.ntmps9
    go_wp2_with (go_at_call 13; refine HF.out.mono ?_; rintro e w0 ⟨rfl, rfl⟩)
    go_wp2_with (go_at_call 22; fail)
    refine (HM.out _ (Kept.refl _ _)).mono ?_
    rintro e w1 ⟨m, rfl, hm1, hm2, K1⟩
    have HM1 := Lib.hid hm1
    have HK1 := Lib.hid K1
    clear hm1 hm2 K1
    go_wp2_with (go_at_call 28; fail)
    refine (HR.out _ HK1.out).mono ?_
    rintro e w2 ⟨m', rfl, hm1, hm2, K2⟩
    obtain rfl : m = m' := by
      have h1 := HM1.out
      split at h1
      · rename_i q
        rw [if_pos q] at hm1
        exact h1.unique hm1
      · rename_i q
        rw [if_neg q] at hm1
        omega
    have HK2 := Lib.hid (HK1.out.trans K2 (fun _ _ h => h))
    clear hm1 hm2 K2 HK1 HM1
    go_wp2_with (go_at_call 29; fail)
    refine (HW.out _ HK2.out).mono ?_
    rintro e w3 ⟨rfl, K⟩
    have HK3 := Lib.hid (HK2.out.trans K (fun _ _ h => h))
    clear K HK2
    go_wp2_with (go_at_call 30; fail)
    refine (HV.out _ HK3.out).mono ?_
    rintro e w4 ⟨rfl, K⟩
    have HK4 := Lib.hid (HK3.out.trans K (fun _ _ h => h))
    clear K HK3
    go_wp2_with (go_at_call 31; fail)
    refine (HC.out _ HK4.out).mono ?_
    rintro e w5 ⟨rfl, K⟩
    have HK5 := Lib.hid (HK4.out.trans K (fun _ _ h => h))
    clear K HK4
    go_wp2_with (go_at_call 32; fail)
    refine (HD.out _ HK5.out).mono ?_
    rintro e w6 ⟨rfl, K⟩
    have HK6 := Lib.hid (HK5.out.trans K (fun _ _ h => h))
    clear K HK5
    go_wp2_with (go_at_call 14; fail)
    refine works_t.mono ?_
    rintro e w7 ⟨rfl, K⟩
    go_wp2
    go_ret
    exact ⟨rfl, HK6.out.trans K (fun _ _ h => h)⟩
end Go.Proofs.Ytelgknecainlfaa

/- The walk of the statement WindowRuns. -/
import Derived.Test.YtelgknecainlfaaWiBusy2
import Derived.Test.YtelgknecainlfaaWiBusy3
import Derived.Test.YtelgknecainlfaaWiCountsW
namespace Go.Proofs.Ytelgknecainlfaa
open Go.RowKit
open Wi (vld Srt chk)

set_option maxRecDepth 100000 in
set_option maxHeartbeats 4000000 in
theorem runs_w {w : World} {v u : Value} {f g : List Int} (h : Ints w v f) (k : Ints w u g) (hl : f.length ≤ maxLen) (hl2 : g.length ≤ maxLen) (a b : Int) : Calls Try.prog 6 #[v, u, .int .i64 a, .int .i64 b] w fun e w' => e = .returned (.bool true) ∧ Kept (fun _ => False) w w' := by
  have HF := Lib.hid (few_c h (maxlen_le hl))
  have HG := Lib.hid (few_c k (maxlen_le hl2))
  by_cases hf : fewB f.length = true ∧ fewB g.length = true
  · have hl' : f.length ≤ 4611686018427387904 := by have := few_le hf.1; omega
    have hg' : g.length ≤ 4611686018427387904 := by have := few_le hf.2; omega
    have HP1 := Lib.hid (fun W (K : Kept (fun _ => False) w W) => peak_c (h.same K) (k.same K) hl' hg')
    have HP2 := Lib.hid (fun W (K : Kept (fun _ => False) w W) => rpeak_c (h.same K) (k.same K) hl' hg')
    have HB1 := Lib.hid (fun W (K : Kept (fun _ => False) w W) => busy_c (h.same K) (k.same K) hl' hg' a b)
    have HB2 := Lib.hid (fun W (K : Kept (fun _ => False) w W) => rbusy_c (h.same K) (k.same K) hl' hg' a b)
    rw [hf.1] at HF
    rw [hf.2] at HG
    obtain ⟨aa, cap, rfl⟩ := h.len
    obtain ⟨ab, cbp, rfl⟩ := k.len
    clear h k hl hl2 hf hl' hg'
    generalize f.length = n at *
    generalize g.length = m at *
    go_enter Try.func6, Try.ntmps6
    go_wp2_with (go_at_call 13; fail)
    refine HF.out.mono ?_
    rintro e w0 ⟨rfl, rfl⟩
    go_wp2_with (go_at_call 13; fail)
    refine HG.out.mono ?_
    rintro e w0 ⟨rfl, rfl⟩
    go_wp2_with (go_at_call 23; fail)
    refine (HP1.out _ (Kept.refl _ _)).mono ?_
    rintro e w1 ⟨n1, t1, rfl, hp, -, K1⟩
    have HPK := Lib.hid hp
    have HK1 := Lib.hid K1
    clear hp K1 HP1
    go_wp2_with (go_at_call 24; fail)
    refine (HP2.out _ HK1.out).mono ?_
    rintro e w2 ⟨n2, t2, rfl, hp, -, K⟩
    obtain ⟨rfl, rfl⟩ : n1 = n2 ∧ t1 = t2 := by
      have h1 := HPK.out
      split at h1
      · rename_i q
        rw [if_pos q] at hp
        exact h1.unique hp
      · rename_i q
        rw [if_neg q] at hp
        exact ⟨by rw [h1.1, hp.1], by rw [h1.2, hp.2]⟩
    have HK2 := Lib.hid (HK1.out.trans K (fun _ _ h => h))
    clear hp K HK1 HPK HP2
    go_wp2_with (go_at_call 25; fail)
    refine (HB1.out _ HK2.out).mono ?_
    rintro e w3 ⟨rfl, K⟩
    have HK3 := Lib.hid (HK2.out.trans K (fun _ _ h => h))
    clear K HK2 HB1
    go_wp2_with (go_at_call 26; fail)
    refine (HB2.out _ HK3.out).mono ?_
    rintro e w4 ⟨rfl, K⟩
    have HK4 := Lib.hid (HK3.out.trans K (fun _ _ h => h))
    clear K HK3 HB2
    go_wp2_with (go_at_call 14; fail)
    refine works_t.mono ?_
    rintro e w5 ⟨rfl, K⟩
    go_wp2
    go_ret
    exact ⟨rfl, HK4.out.trans K (fun _ _ h => h)⟩
  · obtain ⟨aa, cap, rfl⟩ := h.len
    obtain ⟨ab, cbp, rfl⟩ := k.len
    clear h k hl hl2
    generalize f.length = n at *
    generalize g.length = m at *
    cases h1 : fewB n with
    | false =>
      rw [h1] at HF
      clear hf h1
      go_enter Try.func6, Try.ntmps6
      go_wp2_with (go_at_call 13; fail)
      refine HF.out.mono ?_
      rintro e w0 ⟨rfl, rfl⟩
      go_wp2_with (go_at_call 14; refine works_t.mono ?_; rintro e w5 ⟨rfl, K⟩)
      go_ret
      exact ⟨rfl, K⟩
    | true =>
      have h2 : fewB m = false := by
        cases e : fewB m with
        | false => rfl
        | true => exact absurd ⟨h1, e⟩ hf
      rw [h1] at HF
      rw [h2] at HG
      clear hf h1 h2
      go_enter Try.func6, Try.ntmps6
      go_wp2_with (go_at_call 13; fail)
      refine HF.out.mono ?_
      rintro e w0 ⟨rfl, rfl⟩
      go_wp2_with (go_at_call 13; fail)
      refine HG.out.mono ?_
      rintro e w0 ⟨rfl, rfl⟩
      go_wp2_with (go_at_call 14; refine works_t.mono ?_; rintro e w5 ⟨rfl, K⟩)
      go_ret
      exact ⟨rfl, K⟩
end Go.Proofs.Ytelgknecainlfaa

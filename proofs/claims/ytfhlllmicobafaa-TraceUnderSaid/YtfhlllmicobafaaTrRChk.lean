/- TrRChk: texts for the statements of this seat: contracts of functions, walks, plain laws. Conditions: none. -/
import Derived.Test.YtfhlllmicobafaaTrPossible
set_option linter.all false
/- Check of the reference; wrong. -/
namespace Go.Proofs.Ytfhlllmicobafaa
open Go.RowKit
open Tr (Ev)
set_option maxHeartbeats 4000000 in
theorem rcheck_c {w : World} {v : Value} {l : List Ev} (h : Evs w v l) (hw : EvW l) (hl : l.length ≤ 1000000) (jobs : Int) :
    Calls Try.prog 22 #[v, .int .i64 jobs] w fun r w' => r = .returned (.tuple #[.int .i64 (Tr.check jobs l).1, .int .i64 (Tr.check jobs l).2]) ∧ Kept (fun _ => False) w w' := by
  by_cases h0 : jobs < 0
  · have HE : Hid (Tr.check jobs l = (0, 2)) := Lib.hid (by unfold Tr.check; rw [if_pos (.inl h0)])
    clear h
    go_enter Try.func22, Try.ntmps22
    go_wp2
    go_ret2
    exact ⟨by rw [HE.out]; rfl, Kept.refl _ _⟩
  · by_cases h1 : 64 < jobs
    · have HE : Hid (Tr.check jobs l = (0, 2)) := Lib.hid (by unfold Tr.check; rw [if_pos (.inr h1)])
      clear h
      go_enter Try.func22, Try.ntmps22
      go_wp2
      go_ret2
      exact ⟨by rw [HE.out]; rfl, Kept.refl _ _⟩
    · have HE : Hid (Tr.check jobs l = Tr.chkFrom jobs [] l) := Lib.hid (by unfold Tr.check; rw [if_neg (by omega)])
      have HQ := Lib.hid h
      have HW := Lib.hid hw
      have HOK0 : Hid (Tr.Ok jobs (l.take 0)) := Lib.hid (by simpa using Tr.Ok.nil jobs)
      obtain ⟨aa, cap, rfl⟩ := h.len
      obtain ⟨N, hN⟩ : ∃ N : Nat, N = l.length := ⟨_, rfl⟩
      rw [← hN] at hl HQ ⊢
      have HN := Lib.hid hN
      clear h hN hw
      go_enter Try.func22, Try.ntmps22
      go_wp2
      go_loopw [6] (fun q wr => ∃ j : Nat, j ≤ N ∧ q = .int .i64 j ∧ Tr.Ok jobs (l.take j) ∧ Kept (fun _ => False) w wr) (fun q _ => match q with | .int _ x => (N - x).toNat | _ => 0)
      case atStart => exact ⟨0, Nat.zero_le _, rfl, HOK0.out, Kept.refl _ _⟩
      case round =>
        obtain ⟨j, hj, rfl, hok, K⟩ := hrel
        have HK := Lib.hid K
        have HOK := Lib.hid hok
        clear K hok
        by_cases hlt : j < N
        · have hjl : j < l.length := by have := HN.out; omega
          have HX := Lib.hid (get_of hjl)
          have HWX := Lib.hid (HW.out l[j] (List.getElem_mem hjl))
          generalize l[j] = x at HX HWX
          have HPC := Lib.hid (fun W (K : Kept (fun _ => False) w W) => possible_c (HQ.out.same K) (by have := HN.out; omega) jobs j HX.out HWX.out HOK.out)
          obtain ⟨p, hp⟩ : ∃ p, Tr.poss jobs (l.take j) x = p := ⟨_, rfl⟩
          have HP := Lib.hid hp
          rw [hp] at HPC
          clear hp
          by_cases hp0 : p = 0
          · subst hp0
            have HNX := Lib.hid (Tr.walk_good HX.out HOK.out HP.out).1
            go_wp2_with (go_at_call 56; fail)
            refine (HPC.out _ HK.out).mono ?_
            rintro e w2 ⟨rfl, K2⟩
            have HK2 := Lib.hid (HK.out.trans K2 (fun _ _ h => h))
            clear K2
            go_wp2
            go_roundw
            case rel => exact ⟨j + 1, by omega, by go_num, HNX.out, HK2.out⟩
            case measure => simp; omega
          · have HB := Lib.hid (Tr.walk_bad HX.out HOK.out HP.out hp0)
            have hb1 : (p != 0) = true := by simpa using hp0
            have hb2 : (p == 0) = false := by simpa using hp0
            clear hp0
            go_wp2_with (go_at_call 56; fail)
            refine (HPC.out _ HK.out).mono ?_
            rintro e w2 ⟨rfl, K2⟩
            have HK2 := Lib.hid (HK.out.trans K2 (fun _ _ h => h))
            clear K2
            go_wp2
            go_ret2
            exact ⟨by rw [HE.out, HB.out]; rfl, HK2.out⟩
        · obtain rfl : j = N := by omega
          have HG : Hid (Tr.chkFrom jobs [] l = (0, 0)) := Lib.hid (Tr.chkFrom_of_ok (by
            have := HOK.out
            rwa [List.take_of_length_le (by have := HN.out; omega)] at this))
          go_wp2
          go_ret2
          exact ⟨by rw [HE.out, HG.out]; rfl, HK.out⟩
theorem wrong_c {w : World} {v : Value} {l : List Ev} (h : Evs w v l) (hw : EvW l) (hl : l.length ≤ 1000000) (n lo hi : Int) :
    Calls Try.prog 50 #[v, .int .i64 n, .int .i64 lo, .int .i64 hi] w fun r w' => r = .returned (.int .i64 (wrongE l n lo hi)) ∧ Kept (fun _ => False) w w' := by
  have HC := Lib.hid (rcheck_c h hw hl 64)
  have hcf : Tr.check 64 l = Tr.chkFrom 64 [] l := by unfold Tr.check; rw [if_neg (by omega)]
  rw [hcf] at HC
  obtain ⟨b, hb⟩ : ∃ b, Tr.bad 64 l = b := ⟨_, rfl⟩
  have HB := Lib.hid hb
  have HB2 : Hid ((Tr.chkFrom 64 [] l).2 = b) := Lib.hid hb
  clear h hw hb hcf
  obtain ⟨c, hc⟩ : ∃ c, (Tr.chkFrom 64 [] l).1 = c := ⟨_, rfl⟩
  rw [HB2.out, hc] at HC
  clear hc
  by_cases h0 : b = 0
  · subst h0
    by_cases h1 : n < lo
    · have HE : Hid (wrongE l n lo hi = 3) := Lib.hid (by unfold wrongE; rw [HB.out, if_neg (by simp), if_pos (.inl h1)])
      go_enter Try.func50, Try.ntmps50
      go_wp2_with (go_at_call 22; fail)
      refine HC.out.mono ?_
      rintro e w1 ⟨rfl, K⟩
      go_wp2
      go_ret
      exact ⟨by rw [HE.out]; rfl, K⟩
    · by_cases h2 : hi < n
      · have HE : Hid (wrongE l n lo hi = 3) := Lib.hid (by unfold wrongE; rw [HB.out, if_neg (by simp), if_pos (.inr h2)])
        go_enter Try.func50, Try.ntmps50
        go_wp2_with (go_at_call 22; fail)
        refine HC.out.mono ?_
        rintro e w1 ⟨rfl, K⟩
        go_wp2
        go_ret
        exact ⟨by rw [HE.out]; rfl, K⟩
      · have HE : Hid (wrongE l n lo hi = 0) := Lib.hid (by unfold wrongE; rw [HB.out, if_neg (by simp), if_neg (by omega)])
        go_enter Try.func50, Try.ntmps50
        go_wp2_with (go_at_call 22; fail)
        refine HC.out.mono ?_
        rintro e w1 ⟨rfl, K⟩
        go_wp2
        go_ret
        exact ⟨by rw [HE.out]; rfl, K⟩
  · have hb1 : (b != 0) = true := by simpa using h0
    have hb2 : (b == 0) = false := by simpa using h0
    have HE : Hid (wrongE l n lo hi = b) := Lib.hid (by unfold wrongE; rw [HB.out, if_pos h0])
    go_enter Try.func50, Try.ntmps50
    go_wp2_with (go_at_call 22; fail)
    refine HC.out.mono ?_
    rintro e w1 ⟨rfl, K⟩
    go_wp2
    go_ret
    exact ⟨by rw [HE.out]; rfl, K⟩
end Go.Proofs.Ytfhlllmicobafaa

/- TrCheck: texts for the statements of this seat: contracts of functions, walks, plain laws. Conditions: none. -/
import Derived.Test.YtfhlllmicobafaaTrWalk2
set_option linter.all false
/- Check and checked. -/
namespace Go.Proofs.Ytfhlllmicobafaa
open Go.RowKit
open Tr (Ev)

theorem check_c {w : World} {v : Value} {l : List Ev} (h : Evs w v l) (hw : EvW l) (hl : l.length ≤ 1000000) (jobs : Int) :
    Calls Try.prog 21 #[v, .int .i64 jobs] w fun r w' => r = .returned (.tuple #[.int .i64 (Tr.check jobs l).1, .int .i64 (Tr.check jobs l).2]) ∧ Kept (fun _ => False) w w' := by
  by_cases h0 : jobs < 0
  · have HE : Hid (Tr.check jobs l = (0, 2)) := Lib.hid (by unfold Tr.check; rw [if_pos (.inl h0)])
    go_enter Try.func21, Try.ntmps21
    go_wp2
    go_ret2
    exact ⟨by rw [HE.out]; rfl, Kept.refl _ _⟩
  · by_cases h1 : 64 < jobs
    · have HE : Hid (Tr.check jobs l = (0, 2)) := Lib.hid (by unfold Tr.check; rw [if_pos (.inr h1)])
      go_enter Try.func21, Try.ntmps21
      go_wp2
      go_ret2
      exact ⟨by rw [HE.out]; rfl, Kept.refl _ _⟩
    · have HE : Hid (Tr.check jobs l = Tr.chkFrom jobs [] l) := Lib.hid (by unfold Tr.check; rw [if_neg (by omega)])
      have HC := Lib.hid (walk_c h hw hl jobs (by omega) (by omega))
      clear h hw
      go_enter Try.func21, Try.ntmps21
      go_wp2_with (go_at_call 47; fail)
      refine HC.out.mono ?_
      rintro e w1 ⟨rfl, K⟩
      go_wp2
      go_ret2
      exact ⟨by rw [HE.out]; rfl, K⟩
/-- The errors of a list, and then of a number. -/
def wrongE (l : List Ev) (n lo hi : Int) : Int := if Tr.bad 64 l ≠ 0 then Tr.bad 64 l else if n < lo ∨ hi < n then 3 else 0
theorem wrong_ok {l : List Ev} {n lo hi : Int} (h : wrongE l n lo hi = 0) : Tr.Ok 64 l ∧ lo ≤ n ∧ n ≤ hi := by
  unfold wrongE at h
  split at h
  · rename_i h1; exact absurd h h1
  · rename_i h1
    split at h
    · omega
    · exact ⟨Tr.bad_ok (Decidable.not_not.1 h1), by omega, by omega⟩
theorem checked_c {w : World} {v : Value} {l : List Ev} (h : Evs w v l) (hw : EvW l) (hl : l.length ≤ 1000000) (n lo hi : Int) :
    Calls Try.prog 46 #[v, .int .i64 n, .int .i64 lo, .int .i64 hi] w fun r w' => r = .returned (.int .i64 (wrongE l n lo hi)) ∧ Kept (fun _ => False) w w' := by
  have HC := Lib.hid (walk_c h hw hl 64 (by omega) (by omega))
  obtain ⟨b, hb⟩ : ∃ b, Tr.bad 64 l = b := ⟨_, rfl⟩
  have HB := Lib.hid hb
  have HB2 : Hid ((Tr.chkFrom 64 [] l).2 = b) := Lib.hid hb
  clear h hw hb
  obtain ⟨c, hc⟩ : ∃ c, (Tr.chkFrom 64 [] l).1 = c := ⟨_, rfl⟩
  rw [HB2.out, hc] at HC
  clear hc
  by_cases h0 : b = 0
  · subst h0
    by_cases h1 : n < lo
    · have HE : Hid (wrongE l n lo hi = 3) := Lib.hid (by unfold wrongE; rw [HB.out, if_neg (by simp), if_pos (.inl h1)])
      go_enter Try.func46, Try.ntmps46
      go_wp2_with (go_at_call 47; fail)
      refine HC.out.mono ?_
      rintro e w1 ⟨rfl, K⟩
      go_wp2
      go_ret
      exact ⟨by rw [HE.out]; rfl, K⟩
    · by_cases h2 : hi < n
      · have HE : Hid (wrongE l n lo hi = 3) := Lib.hid (by unfold wrongE; rw [HB.out, if_neg (by simp), if_pos (.inr h2)])
        go_enter Try.func46, Try.ntmps46
        go_wp2_with (go_at_call 47; fail)
        refine HC.out.mono ?_
        rintro e w1 ⟨rfl, K⟩
        go_wp2
        go_ret
        exact ⟨by rw [HE.out]; rfl, K⟩
      · have HE : Hid (wrongE l n lo hi = 0) := Lib.hid (by unfold wrongE; rw [HB.out, if_neg (by simp), if_neg (by omega)])
        go_enter Try.func46, Try.ntmps46
        go_wp2_with (go_at_call 47; fail)
        refine HC.out.mono ?_
        rintro e w1 ⟨rfl, K⟩
        go_wp2
        go_ret
        exact ⟨by rw [HE.out]; rfl, K⟩
  · have hb1 : (b != 0) = true := by simpa using h0
    have hb2 : (b == 0) = false := by simpa using h0
    have HE : Hid (wrongE l n lo hi = b) := Lib.hid (by unfold wrongE; rw [HB.out, if_pos h0])
    go_enter Try.func46, Try.ntmps46
    go_wp2_with (go_at_call 47; fail)
    refine HC.out.mono ?_
    rintro e w1 ⟨rfl, K⟩
    go_wp2
    go_ret
    exact ⟨by rw [HE.out]; rfl, K⟩
end Go.Proofs.Ytfhlllmicobafaa

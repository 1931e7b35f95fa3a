/- Contracts of the small functions of occ. -/
import Derived.Test.YthpbejdigllmbaaDoorProg
import Derived.WalkKit
import Derived.WalkSpells
import Derived.WalkLawsBesides
import Derived.Lib.Hide
import Derived.Outline
import Derived.Deep.QuietTactic
import Derived.BigQuiet
import Derived.Test.YthpbejdigllmbaaDoorGeInts
import Derived.Test.YthpbejdigllmbaaDoorOcTbl
namespace Go.Proofs.YthpbejdigllmbaaDoor
open Go.RowKit

theorem isState_c (n : Int) (w : World) : Calls Tryd.prog 43 #[.int .i64 n] w fun e w' => e = .returned (.bool (isSt n)) ∧ w = w' := by
  by_cases h1 : 0 ≤ n
  · by_cases h2 : n < 7
    all_goals
      go_enter Tryd.func43, Tryd.ntmps43
      go_wp2
      go_ret
      exact ⟨by simp [isSt, h1, h2], rfl⟩
  · go_enter Tryd.func43, Tryd.ntmps43
    go_wp2
    go_ret
    exact ⟨by simp [isSt]; omega, rfl⟩
theorem isStep_c (n : Int) (w : World) : Calls Tryd.prog 41 #[.int .i64 n] w fun e w' => e = .returned (.bool (isSp n)) ∧ w = w' := by
  by_cases h1 : 1 ≤ n
  · by_cases h2 : n < 7
    all_goals
      go_enter Tryd.func41, Tryd.ntmps41
      go_wp2
      go_ret
      exact ⟨by simp [isSp, h1, h2], rfl⟩
  · go_enter Tryd.func41, Tryd.ntmps41
    go_wp2
    go_ret
    exact ⟨by simp [isSp]; omega, rfl⟩
theorem isState_b (b : Bool) (n : Int) (w : World) (h : isSt n = b) : Calls Tryd.prog 43 #[.int .i64 n] w fun e w' => e = .returned (.bool b) ∧ w = w' := h ▸ isState_c n w
theorem isStep_b (b : Bool) (n : Int) (w : World) (h : isSp n = b) : Calls Tryd.prog 41 #[.int .i64 n] w fun e w' => e = .returned (.bool b) ∧ w = w' := h ▸ isStep_c n w

theorem lead_cell {w : World} (T : Tbl w) {s t : Int} (h1 : isSt s = true) (h2 : isSp t = true) : w.cell? ⟨0, s.toNat * 6 + (t.toNat - 1), none⟩ = some (.int .i64 (lead s t)) := by
  simp [isSt, isSp] at h1 h2
  exact T.leads _ (by omega)
theorem step_yes (s t : Int) (w : World) (T : Tbl w) (h1 : isSt s = true) (h2 : isSp t = true) :
    Calls Tryd.prog 18 #[.int .i64 s, .int .i64 t] w fun e w' => e = .returned (.tuple #[.int .i64 (stepF s t).1, .int .i64 (stepF s t).2]) ∧ w = w' := by
  have hc := lead_cell T h1 h2
  have HS := Lib.hid (isState_b true s · h1)
  have HP := Lib.hid (isStep_b true t · h2)
  have hF : stepF s t = if lead s t = -1 then (0, 9) else (lead s t, 0) := by unfold stepF; rw [h1, h2]; rfl
  have HF := Lib.hid hF
  have hb : (0 ≤ s ∧ s < 7) ∧ (1 ≤ t ∧ t < 7) := by simp [isSt, isSp] at h1 h2; omega
  obtain ⟨⟨b1, b2⟩, b3, b4⟩ := hb
  generalize lead s t = v at hc HF
  clear hF T h1 h2
  by_cases hv : v = -1
  · subst hv
    go_enter Tryd.func18, Tryd.ntmps18
    go_wp2_with (first | (go_at_call 43; refine (HS.out _).mono ?_; rintro e w' ⟨rfl, rfl⟩) | (go_at_call 41; refine (HP.out _).mono ?_; rintro e w' ⟨rfl, rfl⟩))
    go_ret2
    exact ⟨by rw [HF.out]; rfl, rfl⟩
  · have hq : (v == -1) = false := by simpa using hv
    have HV := Lib.hid hv
    clear hv
    go_enter Tryd.func18, Tryd.ntmps18
    go_wp2_with (first | (go_at_call 43; refine (HS.out _).mono ?_; rintro e w' ⟨rfl, rfl⟩) | (go_at_call 41; refine (HP.out _).mono ?_; rintro e w' ⟨rfl, rfl⟩))
    go_ret2
    exact ⟨by rw [HF.out]; simp [HV.out], rfl⟩
theorem step_no (s t : Int) (w : World) (h : ¬ (isSt s = true ∧ isSp t = true)) :
    Calls Tryd.prog 18 #[.int .i64 s, .int .i64 t] w fun e w' => e = .returned (.tuple #[.int .i64 (stepF s t).1, .int .i64 (stepF s t).2]) ∧ w = w' := by
  have hF : stepF s t = (0, 3) := by
    unfold stepF; rw [if_neg]; simp; intro h1; simpa [h1] using h
  rw [hF]
  by_cases h1 : isSt s = true
  · have h2 : isSp t = false := by cases e : isSp t <;> simp_all
    have HS := Lib.hid (isState_b true s · h1)
    have HP := Lib.hid (isStep_b false t · h2)
    clear hF h h1 h2
    go_enter Tryd.func18, Tryd.ntmps18
    go_wp2_with (first | (go_at_call 43; refine (HS.out _).mono ?_; rintro e w' ⟨rfl, rfl⟩) | (go_at_call 41; refine (HP.out _).mono ?_; rintro e w' ⟨rfl, rfl⟩))
    go_ret2
    exact ⟨rfl, rfl⟩
  · have h2 : isSt s = false := by simpa using h1
    have HS := Lib.hid (isState_b false s · h2)
    clear hF h h1 h2
    go_enter Tryd.func18, Tryd.ntmps18
    go_wp2_with (go_at_call 43; refine (HS.out _).mono ?_; rintro e w' ⟨rfl, rfl⟩)
    go_ret2
    exact ⟨rfl, rfl⟩
/-- Step. -/
theorem step_c (s t n e : Int) (w : World) (T : Tbl w) (h : stepF s t = (n, e)) :
    Calls Tryd.prog 18 #[.int .i64 s, .int .i64 t] w fun r w' => r = .returned (.tuple #[.int .i64 n, .int .i64 e]) ∧ w = w' := by
  have : Calls Tryd.prog 18 #[.int .i64 s, .int .i64 t] w fun e w' => e = .returned (.tuple #[.int .i64 (stepF s t).1, .int .i64 (stepF s t).2]) ∧ w = w' := by
    by_cases hh : isSt s = true ∧ isSp t = true
    · exact step_yes s t w T hh.1 hh.2
    · exact step_no s t w hh
  rw [h] at this
  exact this
/-- Ends. -/
theorem ends_c (s : Int) (b : Bool) (e : Int) (w : World) (h : endsF s = (b, e)) :
    Calls Tryd.prog 20 #[.int .i64 s] w fun r w' => r = .returned (.tuple #[.bool b, .int .i64 e]) ∧ w = w' := by
  cases hs : isSt s with
  | true =>
    have HS := Lib.hid (isState_b true s · hs)
    have hF : (decide (s = 5 ∨ s = 6), (0 : Int)) = (b, e) := by rw [← h]; unfold endsF; rw [hs]; rfl
    simp only [Prod.mk.injEq] at hF
    obtain ⟨rfl, rfl⟩ := hF
    clear h hs
    by_cases h5 : s = 5
    · subst h5
      go_enter Tryd.func20, Tryd.ntmps20
      go_wp2_with (go_at_call 43; refine (HS.out _).mono ?_; rintro e w' ⟨rfl, rfl⟩)
      go_ret2
      exact ⟨rfl, rfl⟩
    · have hq : (s == 5) = false := by simpa using h5
      have H5 := Lib.hid h5
      clear h5
      go_enter Tryd.func20, Tryd.ntmps20
      go_wp2_with (go_at_call 43; refine (HS.out _).mono ?_; rintro e w' ⟨rfl, rfl⟩)
      go_ret2
      refine ⟨?_, rfl⟩
      by_cases h6 : s = 6 <;> simp [h6, H5.out]
  | false =>
    have HS := Lib.hid (isState_b false s · hs)
    have hF : (false, (3 : Int)) = (b, e) := by rw [← h]; unfold endsF; rw [hs]; rfl
    simp only [Prod.mk.injEq] at hF
    obtain ⟨rfl, rfl⟩ := hF
    clear h hs
    go_enter Tryd.func20, Tryd.ntmps20
    go_wp2_with (go_at_call 43; refine (HS.out _).mono ?_; rintro e w' ⟨rfl, rfl⟩)
    go_ret2
    exact ⟨rfl, rfl⟩
/-- Name. -/
def nameF (s : Int) : List UInt8 × Int := if isSt s then (nameL.getD s.toNat [], 0) else ([], 3)
theorem name_c (s : Int) (l : List UInt8) (e : Int) (w : World) (T : Tbl w) (h : nameF s = (l, e)) :
    Calls Tryd.prog 17 #[.int .i64 s] w fun r w' => r = .returned (.tuple #[.string ⟨l.toArray⟩, .int .i64 e]) ∧ w = w' := by
  cases hs : isSt s with
  | true =>
    have HS := Lib.hid (isState_b true s · hs)
    have hF : (nameL.getD s.toNat [], (0 : Int)) = (l, e) := by rw [← h]; unfold nameF; rw [hs]; rfl
    simp only [Prod.mk.injEq] at hF
    obtain ⟨rfl, rfl⟩ := hF
    simp [isSt] at hs
    obtain ⟨b1, b2⟩ := hs
    have hc := T.names s.toNat (by omega)
    clear h T
    generalize nameL.getD s.toNat [] = q at hc ⊢
    go_enter Tryd.func17, Tryd.ntmps17
    go_wp2_with (go_at_call 43; refine (HS.out _).mono ?_; rintro e w' ⟨rfl, rfl⟩)
    go_ret2
    exact ⟨rfl, rfl⟩
  | false =>
    have HS := Lib.hid (isState_b false s · hs)
    have hF : (([] : List UInt8), (3 : Int)) = (l, e) := by rw [← h]; unfold nameF; rw [hs]; rfl
    simp only [Prod.mk.injEq] at hF
    obtain ⟨rfl, rfl⟩ := hF
    clear h hs
    go_enter Tryd.func17, Tryd.ntmps17
    go_wp2_with (go_at_call 43; refine (HS.out _).mono ?_; rintro e w' ⟨rfl, rfl⟩)
    go_ret2
    exact ⟨rfl, rfl⟩
end Go.Proofs.YthpbejdigllmbaaDoor

/- TrW1: texts for the statements of this seat: contracts of functions, walks, plain laws. Conditions: none. -/
import Derived.Test.YtfhlllmicobafaaProg
import Derived.WalkKit
import Derived.WalkSpells
import Derived.WalkLawsBesides
import Derived.Lib.Hide
import Derived.Outline
import Derived.Deep.QuietTactic
import Derived.BigQuiet
import Derived.Test.YtfhlllmicobafaaGeAll
import Derived.Test.YtfhlllmicobafaaTrPl
set_option linter.all false
/- Events in memory; contracts of the small functions. -/
namespace Go.Proofs.Ytfhlllmicobafaa
open Go.RowKit
open Tr (Ev)

def evC (e : Ev) : List Value := [.int .i64 e.kind, .int .i64 e.t, .int .i64 e.job, .int .i64 e.due, .int .i64 e.att, .int .i64 e.run, .int .i64 e.why, .int .i64 e.whn]
abbrev evV (e : Ev) : Value := .agg #[.int .i64 e.kind, .int .i64 e.t, .int .i64 e.job, .int .i64 e.due, .int .i64 e.att, .int .i64 e.run, .int .i64 e.why, .int .i64 e.whn]
theorem evC_len (e : Ev) : (evC e).length = 8 := rfl
theorem evC_one (e : Ev) : ∀ u ∈ evC e, u.oneCell' = true := by
  intro u hu
  simp [evC] at hu
  rcases hu with rfl | rfl | rfl | rfl | rfl | rfl | rfl | rfl <;> rfl
abbrev Evs := Rows evC 8
/-- An event's cells. -/
structure EvAt (w : World) (b o : Nat) (e : Ev) : Prop where
  c0 : w.cell? ⟨b, o, none⟩ = some (.int .i64 e.kind)
  c1 : w.cell? ⟨b, o + 1, none⟩ = some (.int .i64 e.t)
  c2 : w.cell? ⟨b, o + 2, none⟩ = some (.int .i64 e.job)
  c3 : w.cell? ⟨b, o + 3, none⟩ = some (.int .i64 e.due)
  c4 : w.cell? ⟨b, o + 4, none⟩ = some (.int .i64 e.att)
  c5 : w.cell? ⟨b, o + 5, none⟩ = some (.int .i64 e.run)
  c6 : w.cell? ⟨b, o + 6, none⟩ = some (.int .i64 e.why)
  c7 : w.cell? ⟨b, o + 7, none⟩ = some (.int .i64 e.whn)
theorem RowsAt.ev {w : World} {b off : Nat} {l : List Ev} (h : RowsAt evC 8 w b off l) {j : Nat} {x : Ev} (hx : l[j]? = some x) : EvAt w b (off + j * 8) x :=
  ⟨h j x hx 0 _ rfl, h j x hx 1 _ rfl, h j x hx 2 _ rfl, h j x hx 3 _ rfl, h j x hx 4 _ rfl, h j x hx 5 _ rfl, h j x hx 6 _ rfl, h j x hx 7 _ rfl⟩
theorem get_of {α : Type} {l : List α} {j : Nat} (h : j < l.length) : l[j]? = some l[j] := List.getElem?_eq_getElem h

theorem valid_c (t : Int) (w : World) : Calls Try.prog 85 #[.int .i64 t] w fun e w' => e = .returned (.bool (Tr.vt t)) ∧ w = w' := by
  by_cases h1 : 0 ≤ t
  · by_cases h2 : t ≤ 253402300799
    all_goals
      go_enter Try.func85, Try.ntmps85
      go_wp2
      go_ret
      exact ⟨by simp [Tr.vt, h1, h2], rfl⟩
  · go_enter Try.func85, Try.ntmps85
    go_wp2
    go_ret
    exact ⟨by simp [Tr.vt]; omega, rfl⟩
theorem valid_b (b : Bool) (t : Int) (w : World) (h : Tr.vt t = b) : Calls Try.prog 85 #[.int .i64 t] w fun e w' => e = .returned (.bool b) ∧ w = w' := h ▸ valid_c t w
theorem rtime_c (t : Int) (w : World) : Calls Try.prog 96 #[.int .i64 t] w fun e w' => e = .returned (.bool (Tr.vt t)) ∧ w = w' := by
  by_cases h1 : 0 ≤ t
  · by_cases h2 : t ≤ 253402300799
    all_goals
      go_enter Try.func96, Try.ntmps96
      go_wp2
      go_ret
      exact ⟨by simp [Tr.vt, h1, h2], rfl⟩
  · go_enter Try.func96, Try.ntmps96
    go_wp2
    go_ret
    exact ⟨by simp [Tr.vt]; omega, rfl⟩
theorem rtime_b (b : Bool) (t : Int) (w : World) (h : Tr.vt t = b) : Calls Try.prog 96 #[.int .i64 t] w fun e w' => e = .returned (.bool b) ∧ w = w' := h ▸ rtime_c t w
/-- in: whether a number is in its range, or 0. -/
def inB (u : Bool) (n lo hi : Int) : Bool := if u = true then decide (lo ≤ n) && decide (n ≤ hi) else decide (n = 0)
theorem in_c (u : Bool) (n lo hi : Int) (w : World) : Calls Try.prog 86 #[.bool u, .int .i64 n, .int .i64 lo, .int .i64 hi] w fun e w' => e = .returned (.bool (inB u n lo hi)) ∧ w = w' := by
  cases u with
  | false =>
    by_cases h : n = 0
    · subst h
      go_enter Try.func86, Try.ntmps86
      go_wp2
      go_ret
      exact ⟨rfl, rfl⟩
    · have h2 : (n == 0) = false := by simpa using h
      have HE : Hid (inB false n lo hi = false) := Lib.hid (by simp [inB, h])
      go_enter Try.func86, Try.ntmps86
      go_wp2
      go_ret
      exact ⟨by rw [HE.out]; rfl, rfl⟩
  | true =>
    by_cases h1 : lo ≤ n
    · by_cases h2 : n ≤ hi
      · have HE : Hid (inB true n lo hi = true) := Lib.hid (by simp [inB, h1, h2])
        go_enter Try.func86, Try.ntmps86
        go_wp2
        go_ret
        exact ⟨by rw [HE.out]; rfl, rfl⟩
      · have HE : Hid (inB true n lo hi = false) := Lib.hid (by simp [inB, h2])
        go_enter Try.func86, Try.ntmps86
        go_wp2
        go_ret
        exact ⟨by rw [HE.out]; rfl, rfl⟩
    · have HE : Hid (inB true n lo hi = false) := Lib.hid (by simp [inB, h1])
      go_enter Try.func86, Try.ntmps86
      go_wp2
      go_ret
      exact ⟨by rw [HE.out]; rfl, rfl⟩
theorem in_b (b u : Bool) (n lo hi : Int) (w : World) (h : inB u n lo hi = b) : Calls Try.prog 86 #[.bool u, .int .i64 n, .int .i64 lo, .int .i64 hi] w fun e w' => e = .returned (.bool b) ∧ w = w' := h ▸ in_c u n lo hi w
theorem usesjob_c (k : Int) (w : World) : Calls Try.prog 71 #[.int .i64 k] w fun e w' => e = .returned (.bool (k != 6)) ∧ w = w' := by
  go_enter Try.func71, Try.ntmps71
  go_wp2
  go_ret
  exact ⟨rfl, rfl⟩
theorem usesjob_b (b : Bool) (k : Int) (w : World) (h : (k != 6) = b) : Calls Try.prog 71 #[.int .i64 k] w fun e w' => e = .returned (.bool b) ∧ w = w' := h ▸ usesjob_c k w
theorem few_c {w : World} {a : Option Addr} {n c : Nat} : Calls Try.prog 13 #[.slice a n c] w fun e w' => e = .returned (.bool (decide (n ≤ 150))) ∧ w = w' := by
  by_cases h : n ≤ 150
  all_goals
    go_enter Try.func13, Try.ntmps13
    go_wp2
    go_ret
    exact ⟨by simp [h]; omega, rfl⟩
theorem launched_c (e : Ev) (w : World) : Calls Try.prog 54 #[evV e] w fun r w' => r = .returned (.bool (e.kind == 1)) ∧ Kept (fun _ => False) w w' := by
  have HK : Hid (∀ o, Kept (fun _ => False) w (w.alloc o)) := Lib.hid fun o => (Kept.refl _ _).alloc _
  go_enter Try.func54, Try.ntmps54
  go_wp2
  go_ret
  exact ⟨rfl, HK.out _⟩
end Go.Proofs.Ytfhlllmicobafaa

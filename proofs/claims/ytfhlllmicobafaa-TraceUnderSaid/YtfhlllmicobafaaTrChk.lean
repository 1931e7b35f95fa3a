/- TrChk: texts for the statements of this seat: contracts of functions, walks, plain laws. Conditions: none. -/
import Derived.IntWalk
import Derived.Test.YtfhlllmicobafaaTrW1
set_option linter.all false
/- event.Check. -/
namespace Go.Proofs.Ytfhlllmicobafaa
open Go.RowKit
open Tr (Ev)

theorem quiet_same {P : Program} {f : FuncId} {args : Array Value} {w : World} {n : Nat} {v : Value}
    (h : Calls P f args (w.drewN n) fun e w' => e = .returned v ∧ w.drewN n = w') : Calls P f args (w.drewN n) fun e w'' => e = .returned v ∧ ∃ m, w'' = w.drewN m :=
  h.mono fun _ _ ⟨he, hm⟩ => ⟨he, n, hm.symm⟩
def usesK (k : Nat) : Int := match k with | 1 => 7 | 2 => 7 | 3 => 7 | 4 => 11 | 5 => 19 | 6 => 16 | 7 => 9 | 8 => 1 | _ => 0
def whyK (k : Nat) : Int := match k with | 5 => 6 | 6 => 16 | _ => 0
def wordK (k : Nat) : ByteArray := match k with
  | 1 => ⟨#[108, 97, 117, 110, 99, 104]⟩ | 2 => ⟨#[100, 111, 110, 101]⟩ | 3 => ⟨#[102, 97, 105, 108]⟩ | 4 => ⟨#[114, 101, 116, 114, 121]⟩ | 5 => ⟨#[100, 114, 111, 112]⟩ | 6 => ⟨#[114, 101, 106, 101, 99, 116]⟩ | 7 => ⟨#[111, 112, 101, 110]⟩ | 8 => ⟨#[99, 108, 111, 115, 101]⟩ | _ => ⟨#[]⟩
def kindCells : Array Value := ((List.range 9).flatMap fun k => [Value.string (wordK k), Value.int .i64 (usesK k), Value.int .i64 (whyK k)]).toArray
def KindsPost (w : World) (r : Ending) (w' : World) : Prop := ∃ g, r = .returned (.slice (some ⟨g, 0, none⟩) 9 9) ∧ w.heap.size ≤ g ∧ g < w'.heap.size ∧ (∀ j, w'.cell? ⟨g, j, none⟩ = kindCells[j]?) ∧ Kept (fun _ => False) w w'
theorem kinds_c (w : World) : Calls Try.prog 83 #[] w (KindsPost w) := by
  go_enter Try.func83, Try.ntmps83
  go_wp2
  go_ret
  refine ⟨w.heap.size, rfl, Nat.le_refl _, by simp, fun j => ?_, (Kept.refl _ _).alloc _⟩
  rw [World.cell?_alloc_at _ _ _ _ rfl]
  rfl
theorem uses_c (u f : Int) (b : Bool) (hb : (bits BinOp.and IntKind.i64 u f != 0) = b) (kb : Nat) (w : World) (c1 : w.cell? ⟨kb, 1, none⟩ = some (.int .i64 u)) : Calls Try.prog 84 #[.int .i64 f, .pointer (some ⟨kb, 0, none⟩)] w fun r w' => r = .returned (.bool b) ∧ w = w' := by
  have HB := Lib.hid hb
  clear hb
  go_enter Try.func84, Try.ntmps84
  go_wp2
  go_ret
  exact ⟨by rw [← HB.out]; rfl, rfl⟩
theorem kind_cells {w : World} {g k : Nat} (h : ∀ j, w.cell? ⟨g, j, none⟩ = kindCells[j]?) (h1 : 1 ≤ k) (h8 : k ≤ 8) : w.cell? ⟨g, k * 3, none⟩ = some (.string (wordK k)) ∧ w.cell? ⟨g, k * 3 + 1, none⟩ = some (.int .i64 (usesK k)) ∧ w.cell? ⟨g, k * 3 + 2, none⟩ = some (.int .i64 (whyK k)) := by
  rw [h, h, h]
  have : k = 1 ∨ k = 2 ∨ k = 3 ∨ k = 4 ∨ k = 5 ∨ k = 6 ∨ k = 7 ∨ k = 8 := by omega
  rcases this with rfl | rfl | rfl | rfl | rfl | rfl | rfl | rfl <;> exact ⟨rfl, rfl, rfl⟩
/-- Whether a kind uses a field. -/
def usesB (k : Nat) (f : Int) : Bool := bits BinOp.and IntKind.i64 (usesK k) f != 0
theorem uses_tab (k : Nat) (h1 : 1 ≤ k) (h8 : k ≤ 8) : usesB k 1 = decide (k ≠ 6) ∧ usesB k 2 = decide (k ≤ 5) ∧ usesB k 4 = decide (k ≤ 3) ∧ usesB k 8 = (decide (k = 4) || decide (k = 7)) ∧ usesB k 16 = (decide (k = 5) || decide (k = 6)) := by
  have : k = 1 ∨ k = 2 ∨ k = 3 ∨ k = 4 ∨ k = 5 ∨ k = 6 ∨ k = 7 ∨ k = 8 := by omega
  rcases this with rfl | rfl | rfl | rfl | rfl | rfl | rfl | rfl <;> decide
/-- The six tests. -/
theorem fits_in (k : Nat) (h1 : 1 ≤ k) (h8 : k ≤ 8) (t job due att run why whn : Int) (hr : run ≤ 9223372036854775807) : Tr.fits ⟨k, t, job, due, att, run, why, whn⟩ =
    (inB (usesB k 1) job 0 63 && (inB (usesB k 2) due 0 t && (inB (usesB k 2) att (if k = 4 then 2 else 1) 21 && (inB (usesB k 4) run 1 9223372036854775807 && (inB (usesB k 8) whn (t + 1) 4611686018427387904 && inB (usesB k 16) why 1 (whyK k)))))) := by
  have : k = 1 ∨ k = 2 ∨ k = 3 ∨ k = 4 ∨ k = 5 ∨ k = 6 ∨ k = 7 ∨ k = 8 := by omega
  obtain ⟨a1, a2, a3, a4, a5⟩ := uses_tab k h1 h8
  rw [a1, a2, a3, a4, a5]
  rcases this with rfl | rfl | rfl | rfl | rfl | rfl | rfl | rfl <;> simp [Tr.fits, inB, whyK, Tr.mostWhy, Bool.and_assoc, hr]
end Go.Proofs.Ytfhlllmicobafaa

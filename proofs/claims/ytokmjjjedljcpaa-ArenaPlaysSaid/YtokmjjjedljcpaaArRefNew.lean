/- ArRefNew: texts for the statements of this seat: contracts of functions, walks, plain laws. Conditions: none. -/
import Derived.Test.YtokmjjjedljcpaaProg
import Derived.Deep.QuietTactic
import Derived.BigQuiet
import Derived.WalkKit
import Derived.WalkSpells
import Derived.WalkLawsBesides
import Derived.Lib.Hide
import Derived.Test.YtokmjjjedljcpaaArBase
set_option linter.all false
namespace Go.Proofs.Ytokmjjjedljcpaa
open Go.RowKit

theorem Try.info2 : (Try.prog.info? 2).map (fun i => (i.zero, i.size, i.bytes)) = some (some (.int .i64 0), 1, 8) := by kernel_rfl
theorem Try.info4 : (Try.prog.info? 4).map (fun i => (i.zero, i.size, i.bytes)) = some (some (.bool false), 1, 1) := by kernel_rfl
theorem Try.info3 : (Try.prog.info? 3).map (fun i => (i.zero, i.size, i.bytes)) = some (some (.int .i64 0), 1, 8) := by kernel_rfl
theorem el50 : ElemOk Try.prog 50 2 1 8 := .mk' Try.underlying50 Try.info2 rfl (by decide)
theorem el62 : ElemOk Try.prog 62 4 1 1 := .mk' Try.underlying62 Try.info4 rfl (by decide)
theorem el73 : ElemOk Try.prog 73 3 1 8 := .mk' Try.underlying73 Try.info3 rfl (by decide)

theorem madeCells_one (z : Value) (n : Nat) : madeCells #[z] n = Array.replicate n z := by
  apply Array.ext
  · simp [madeCells]
  · intro i h1 h2
    simp [madeCells, Nat.mod_one]

theorem make_c {t e bytes : Nat} {z : Value} (hu : Try.prog.underlying t = some (.slice e)) (h : (Try.prog.info? e).map (fun i => (i.zero, i.size, i.bytes)) = some (some z, 1, bytes)) (hz : z.cells = #[z]) (hb : bytes ≤ 8) (n : Nat) (hn : n ≤ 4096) (w : World) :
    (Instr.makeSlice t (.int .i64 n) (.int .i64 n)).run Try.prog w = .ok (.slice (some ⟨w.heap.size, 0, none⟩) n n) (w.alloc (.cells (Array.replicate n z) e)) := by
  obtain ⟨i0, hi, hz0, hz1, hz2⟩ := info_parts h
  have q : bytes * n ≤ 8 * 4096 := Nat.mul_le_mul hb hn
  have := run_make (P := Try.prog) w t e i0 z hu hi hz0 .i64 .i64 n n (by omega) (by omega) (by rw [hz2, ← Int.natCast_mul]; omega) (by omega)
  rw [hz, hz1, Nat.mul_one, Int.toNat_natCast, madeCells_one] at this
  exact this

set_option maxHeartbeats 400000 in
theorem rnew_no (n : Int) (w : World) (h : n < 0 ∨ 4096 < n) :
    Calls Try.prog 18 #[.int .i64 n] w fun e w' => e = .returned (.tuple #[.pointer none, .int .i64 2]) ∧ w = w' := by
  rcases h with h | h
  · go_enter Try.func18, Try.ntmps18
    go_wp2
    go_ret2
    exact ⟨rfl, rfl⟩
  · have : ¬ n < 0 := by omega
    go_enter Try.func18, Try.ntmps18
    go_wp2
    go_ret2
    exact ⟨rfl, rfl⟩

/-- The reference's arena, new: its struct, and three rows. -/
def RNewPost (n : Nat) (W0 : World) (e : Ending) (W' : World) : Prop := ∃ rb ub tb vb, e = .returned (.tuple #[.pointer (some ⟨rb, 0, none⟩), .int .i64 0]) ∧ Kept (fun _ => False) W0 W' ∧
  W'.heap[rb]? = some (.cells #[.bool true, .slice (some ⟨ub, 0, none⟩) n n, .slice (some ⟨tb, 0, none⟩) n n, .slice (some ⟨vb, 0, none⟩) n n, .slice none 0 0] 75) ∧
  W'.heap[ub]? = some (.cells (Array.replicate n (.int .i64 0)) 2) ∧ W'.heap[tb]? = some (.cells (Array.replicate n (.bool false)) 4) ∧ W'.heap[vb]? = some (.cells (Array.replicate n (.int .i64 0)) 3) ∧
  W0.heap.size ≤ rb ∧ W0.heap.size ≤ ub ∧ W0.heap.size ≤ tb ∧ W0.heap.size ≤ vb

theorem heap_a4 (w : World) (o1 o2 o3 o4 : Obj) :
    ((((w.alloc o1).alloc o2).alloc o3).alloc o4).drew.heap[w.heap.size]? = some o1 ∧ ((((w.alloc o1).alloc o2).alloc o3).alloc o4).drew.heap[w.heap.size + 1]? = some o2 ∧
    ((((w.alloc o1).alloc o2).alloc o3).alloc o4).drew.heap[w.heap.size + 1 + 1]? = some o3 ∧ ((((w.alloc o1).alloc o2).alloc o3).alloc o4).drew.heap[w.heap.size + 1 + 1 + 1]? = some o4 := by
  show ((((w.heap.push o1).push o2).push o3).push o4)[w.heap.size]? = some o1 ∧ ((((w.heap.push o1).push o2).push o3).push o4)[w.heap.size + 1]? = some o2 ∧
    ((((w.heap.push o1).push o2).push o3).push o4)[w.heap.size + 1 + 1]? = some o3 ∧ ((((w.heap.push o1).push o2).push o3).push o4)[w.heap.size + 1 + 1 + 1]? = some o4
  simp only [Array.getElem?_push, Array.size_push]
  refine ⟨?_, ?_, ?_, ?_⟩
  · rw [if_neg (by omega), if_neg (by omega), if_neg (by omega), if_pos trivial]
  · rw [if_neg (by omega), if_neg (by omega), if_pos trivial]
  · rw [if_neg (by omega), if_pos trivial]
  · rw [if_pos trivial]

set_option maxRecDepth 100000 in
set_option maxHeartbeats 1000000 in
theorem rnew_yes (n : Nat) (w : World) (h : n ≤ 4096) :
    Calls Try.prog 18 #[.int .i64 n] w (RNewPost n w) := by
  have h1 : ¬ (n : Int) < 0 := by omega
  have h2 : (n : Int) ≤ 4096 := by omega
  have m1 := make_c Try.underlying50 Try.info2 rfl (by omega) n h
  have m2 := make_c Try.underlying62 Try.info4 rfl (by omega) n h
  have m3 := make_c Try.underlying73 Try.info3 rfl (by omega) n h
  generalize hA : Array.replicate n (Value.int .i64 0) = A at m1 m3
  generalize hB : Array.replicate n (Value.bool false) = B at m2
  have HA := Lib.hid hA
  have HB := Lib.hid hB
  clear hA hB
  go_enter Try.func18, Try.ntmps18
  go_wp2
  go_region
  all_goals go_wp2
  all_goals go_ret2
  all_goals
    refine ⟨_, _, _, _, rfl, (((((Kept.refl _ w).alloc _).alloc _).alloc _).alloc _).drew, (heap_a4 w _ _ _ _).2.2.2, ?_, ?_, ?_, by omega, by omega, by omega, by omega⟩
    all_goals first | (rw [HA.out]; first | exact (heap_a4 w _ _ _ _).1 | exact (heap_a4 w _ _ _ _).2.1 | exact (heap_a4 w _ _ _ _).2.2.1) | (rw [HB.out]; first | exact (heap_a4 w _ _ _ _).1 | exact (heap_a4 w _ _ _ _).2.1 | exact (heap_a4 w _ _ _ _).2.2.1)
end Go.Proofs.Ytokmjjjedljcpaa

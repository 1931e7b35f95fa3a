/- ArClear: texts for the statements of this seat: contracts of functions, walks, plain laws. Conditions: none. -/
import Derived.Test.YtokmjjjedljcpaaArLive2
import Derived.Laws.CopyRow
namespace Go.Proofs.Ytokmjjjedljcpaa
open Go.RowKit

theorem kept_setRow (W : World) (g : Nat) (vs : Array Value) : Kept (fun b => b = g) W (W.setRow g vs) :=
  ⟨rfl, rfl, rfl, by simp [World.setRow], fun k hk hn => by
    simp only [World.setRow, Array.getElem?_modify]
    rw [if_neg (fun e => hn e.symm)]⟩

theorem run_clear {W : World} {base g n cap : Nat} {xs : List Value} (ty : TypeId) (h : W.ownsRow base 27 1 (.slice (some ⟨g, 0, none⟩) n cap) n xs) (h0 : 0 < n) :
    ∃ W', (Builtin.clear_ #[26] ty #[.slice (some ⟨g, 0, none⟩) n cap]).run Try.prog W = .ok (.tuple #[]) W' ∧ Kept (fun b => b = g) W W' := by
  rcases h.2 with ⟨hv, -⟩ | ⟨g', cap', cur, hv, hg, hh, hn, hc, hs, -⟩
  · simp at hv
  · injection hv with e1 e2 e3
    injection e1 with e1
    injection e1 with e1
    subst e1 e3
    obtain ⟨m, rfl⟩ : ∃ m, n = m + 1 := ⟨n - 1, by omega⟩
    have R := run_storeCells_at (P := Try.prog) g 0 27 (Builtin.zeroCells #[.int .i64 0] (m + 1)).toList 0 cur W hh (by simp [Builtin.zeroCells]; omega) (fun v hv => by
      simp only [Builtin.zeroCells, Array.toList_map, List.mem_map] at hv
      obtain ⟨i, -, rfl⟩ := hv
      simp [Nat.mod_one, Value.oneCell'])
    obtain ⟨X, R⟩ : ∃ X, (storeCells ⟨g, 0, none⟩ (Builtin.zeroCells #[.int .i64 0] (m + 1)).toList).run Try.prog W = .ok () (W.setRow g X) := ⟨_, R⟩
    refine ⟨W.setRow g X, ?_, kept_setRow W g X⟩
    simp only [Builtin.clear_]
    simp [run_underlying Try.underlying26, Value.cells]
    rw [R]
    rfl
end Go.Proofs.Ytokmjjjedljcpaa

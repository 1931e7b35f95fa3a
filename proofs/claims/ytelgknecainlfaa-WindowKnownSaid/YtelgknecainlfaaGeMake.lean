/- make of a slice of one-cell elements. -/
import Derived.Test.YtelgknecainlfaaGeRow
import Derived.WalkSpells
import Derived.WalkLawsBesides
namespace Go.Proofs.Ytelgknecainlfaa
open Go.RowKit
theorem madeCells_one' (z : Value) (n : Nat) : madeCells #[z] n = Array.replicate n z := by
  apply Array.ext
  · simp [madeCells]
  · intro i h1 h2
    simp [madeCells, Nat.mod_one]
theorem make_p {P : Program} {t e bytes : Nat} {z : Value} (hu : P.underlying t = some (.slice e)) (h : (P.info? e).map (fun i => (i.zero, i.size, i.bytes)) = some (some z, 1, bytes)) (hz : z.cells = #[z]) (hb : bytes ≤ 16) (n : Nat) (hn : n ≤ 1000000) (w : World) :
    (Instr.makeSlice t (.int .i64 n) (.int .i64 n)).run P w = .ok (.slice (some ⟨w.heap.size, 0, none⟩) n n) (w.alloc (.cells (Array.replicate n z) e)) := by
  obtain ⟨i0, hi, hz0, hz1, hz2⟩ := info_parts h
  have q : bytes * n ≤ 16 * 1000000 := Nat.mul_le_mul hb hn
  have := run_make (P := P) w t e i0 z hu hi hz0 .i64 .i64 n n (by omega) (by omega) (by rw [hz2, ← Int.natCast_mul]; omega) (by omega)
  rw [hz, hz1, Nat.mul_one, Int.toNat_natCast, madeCells_one'] at this
  exact this
end Go.Proofs.Ytelgknecainlfaa

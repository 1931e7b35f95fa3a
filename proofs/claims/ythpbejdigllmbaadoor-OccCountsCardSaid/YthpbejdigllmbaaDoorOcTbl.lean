/- The package-level tables of occ in memory. -/
import Derived.Test.YthpbejdigllmbaaDoorArModel
import Derived.Test.YthpbejdigllmbaaDoorOcPlain
namespace Go.Proofs.YthpbejdigllmbaaDoor
open Go.RowKit
def nameL : List (List UInt8) := [[110, 101, 119], [116, 105, 109, 101, 114], [114, 101, 97, 100, 121], [114, 117, 110, 110, 105, 110, 103], [119, 97, 105, 116, 105, 110, 103], [100, 111, 110, 101], [100, 114, 111, 112, 112, 101, 100]]
structure Tbl (W : World) : Prop where
  leads : ∀ k, k < 42 → W.cell? ⟨0, k, none⟩ = some (.int .i64 (octab.getD k 0))
  names : ∀ k, k < 7 → W.cell? ⟨1, k, none⟩ = some (.string ⟨(nameL.getD k []).toArray⟩)
  lt : 1 < W.heap.size
theorem Tbl.kept {S : Nat → Prop} {W W' : World} (h : Tbl W) (K : Kept S W W') (h0 : ¬ S 0) (h1 : ¬ S 1) : Tbl W' :=
  ⟨fun k hk => (K.cell (a := ⟨0, k, none⟩) (Nat.lt_of_le_of_lt (Nat.zero_le 1) h.lt) h0).trans (h.leads k hk), fun k hk => (K.cell (a := ⟨1, k, none⟩) h.lt h1).trans (h.names k hk), Nat.lt_of_lt_of_le h.lt K.size⟩
theorem Tbl.same {W W' : World} (h : Tbl W) (K : Kept (fun _ => False) W W') : Tbl W' := h.kept K (fun h => h) (fun h => h)
end Go.Proofs.YthpbejdigllmbaaDoor

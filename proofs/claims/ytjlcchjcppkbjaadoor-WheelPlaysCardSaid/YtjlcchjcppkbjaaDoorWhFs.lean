/- WhFs: texts for the statements of this seat: contracts of functions, walks, plain laws. Conditions: none. -/
import Derived.Test.YtjlcchjcppkbjaaDoorWhArg
import Derived.Test.YtjlcchjcppkbjaaDoorWhFill0
set_option linter.all false
/- A box that holds a step. -/
namespace Go.Proofs.YtjlcchjcppkbjaaDoor
open Go.RowKit
structure BoxS (b : Nat) (x : Sp) (W : World) : Prop where
  c0 : W.cell? ⟨b, 0, none⟩ = some (.int .i64 x.d)
  c1 : W.cell? ⟨b, 1, none⟩ = some (.int .i64 x.at_)
  c2 : W.cell? ⟨b, 2, none⟩ = some (.int .i64 x.id)
  c3 : W.cell? ⟨b, 3, none⟩ = some (.int .i64 x.h)
  lt : b < W.heap.size
theorem BoxS.kept {S : Nat → Prop} {b : Nat} {x : Sp} {W V : World} (h : BoxS b x W) (K : Kept S W V) (hS : ¬ S b) : BoxS b x V :=
  ⟨(K.cell (a := ⟨b, 0, none⟩) h.lt hS).trans h.c0, (K.cell (a := ⟨b, 1, none⟩) h.lt hS).trans h.c1, (K.cell (a := ⟨b, 2, none⟩) h.lt hS).trans h.c2, (K.cell (a := ⟨b, 3, none⟩) h.lt hS).trans h.c3, Nat.lt_of_lt_of_le h.lt K.size⟩
theorem BoxS.same {b : Nat} {x : Sp} {W V : World} (h : BoxS b x W) (K : Kept (fun _ => False) W V) : BoxS b x V := h.kept K (fun h => h)
theorem BoxS.new (W : World) (x : Sp) (t : Nat) : BoxS W.heap.size x (W.alloc (.cells #[.int .i64 x.d, .int .i64 x.at_, .int .i64 x.id, .int .i64 x.h] t)) :=
  ⟨World.cell?_alloc_at _ _ _ _ rfl, World.cell?_alloc_at _ _ _ _ rfl, World.cell?_alloc_at _ _ _ _ rfl, World.cell?_alloc_at _ _ _ _ rfl, by simp⟩
end Go.Proofs.YtjlcchjcppkbjaaDoor

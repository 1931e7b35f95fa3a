/- GeRO: texts for the statements of this seat: contracts of functions, walks, plain laws. Conditions: none. -/
import Derived.Test.YtokmjjjedljcpaaGeRows
set_option linter.all false
/- A slice of structs that a call makes for itself, element by element. -/
namespace Go.Proofs.Ytokmjjjedljcpaa
open Go.RowKit
variable {α : Type} {f : α → List Value} {n e : Nat}

/-- The slice v, in blocks newer than w, holds xs; nothing of w has changed. -/
def RO (f : α → List Value) (n e : Nat) (w wk : World) (v : Value) (xs : List α) : Prop := wk.ownsRow w.heap.size e n v xs.length (cellsL f xs) ∧ w.heap.size ≤ wk.heap.size ∧ Kept (fun _ => False) w wk
theorem RO.start (f : α → List Value) (n e : Nat) (w : World) : RO f n e w w (.slice none 0 0) [] := ⟨⟨by simp [cellsL], .inl ⟨rfl, rfl⟩⟩, Nat.le_refl _, Kept.refl _ _⟩
theorem RO.step {w w1 w2 : World} {v1 v2 : Value} {x1 x2 : List α} (h : RO f n e w w1 v1 x1) (h2 : w2.ownsRow w.heap.size e n v2 x2.length (cellsL f x2)) (K : Kept (fun b => v1.ownBlock = some b) w1 w2) : RO f n e w w2 v2 x2 :=
  ⟨h2, Nat.le_trans h.2.1 K.size, h.2.2.trans K fun i hi hv => by have := (ownsRow_block h.1 hv).1; omega⟩
theorem RO.move {w w1 w2 : World} {v1 : Value} {x1 : List α} (h : RO f n e w w1 v1 x1) (K : Kept (fun _ => False) w1 w2) : RO f n e w w2 v1 x1 :=
  ⟨ownsRow_kept h.1 K (fun _ _ _ h => h), Nat.le_trans h.2.1 K.size, h.2.2.trans K fun _ _ h => h⟩
theorem RO.base {w w1 wk : World} {v : Value} {xs : List α} (h : RO f n e w1 wk v xs) (K : Kept (fun _ => False) w w1) : RO f n e w wk v xs :=
  ⟨ownsRow_base h.1 K.size, Nat.le_trans K.size h.2.1, K.trans h.2.2 fun _ _ h => h⟩
theorem RO.val {w w1 : World} {v : Value} {xs : List α} (h : RO f n e w w1 v xs) : ∃ p c, v = .slice p xs.length c := by
  rcases h.1.2 with ⟨rfl, h0⟩ | ⟨g, cap, cur, rfl, -⟩
  · exact ⟨none, 0, by rw [h0]⟩
  · exact ⟨_, cap, rfl⟩
theorem RO.rows (hf : ∀ x, (f x).length = n) {w w1 : World} {v : Value} {xs : List α} (h : RO f n e w w1 v xs) : Rows f n w1 v xs := Rows.of_own hf h.1
/-- One more. -/
theorem RO.snoc {w w1 w2 : World} {v1 v2 : Value} {m : Nat} {x1 : List α} {x : α} (h : RO f n e w w1 v1 x1) (hm : x1.length = m) (h2 : w2.ownsRow w.heap.size e n v2 (m + 1) (cellsL f x1 ++ f x)) (K : Kept (fun b => v1.ownBlock = some b) w1 w2) : RO f n e w w2 v2 (x1 ++ [x]) := by
  refine h.step ?_ K
  rw [cellsL_append, cellsL_one, List.length_append, List.length_singleton, hm]
  exact h2
theorem cells_ints (l : List Int) : cellsL (fun x => [Value.int .i64 x]) l = l.map (Value.int .i64) := by
  induction l with
  | nil => rfl
  | cons x l ih => rw [cellsL_cons, ih]; rfl
end Go.Proofs.Ytokmjjjedljcpaa

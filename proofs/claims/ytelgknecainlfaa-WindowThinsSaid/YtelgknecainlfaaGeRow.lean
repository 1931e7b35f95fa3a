/- GeRow: texts for the statements of this seat: contracts of functions, walks, plain laws. Conditions: none. -/
import Derived.Lib.Hide
import Derived.Test.YtelgknecainlfaaArBase
import Derived.Test.YtelgknecainlfaaGeArr
set_option linter.all false
/- A block of cells that the call may write. -/
namespace Go.Proofs.Ytelgknecainlfaa
open Go.RowKit

structure RowAt (w : World) (b : Nat) (vs : List Value) : Prop where
  cell : w.rangeAt b 0 vs
  fz : ∀ o, w.frozen? ⟨b, o, none⟩ = false
  lt : b < w.heap.size
namespace RowAt
variable {S : Nat → Prop} {w w' : World} {b : Nat} {vs : List Value}
theorem get (h : RowAt w b vs) {j : Nat} {v : Value} (hv : vs[j]? = some v) : w.cell? ⟨b, j, none⟩ = some v := by
  have := h.cell j v hv
  rwa [Nat.zero_add] at this
theorem kept (h : RowAt w b vs) (K : Kept S w w') (hS : ¬ S b) : RowAt w' b vs :=
  ⟨fun j v hv => (K.cell (a := ⟨b, 0 + j, none⟩) h.lt hS).trans (h.cell j v hv), fun o => (K.frozen (a := ⟨b, o, none⟩) h.lt hS).trans (h.fz o), Nat.lt_of_lt_of_le h.lt K.size⟩
theorem same (h : RowAt w b vs) (K : Kept (fun _ => False) w w') : RowAt w' b vs := h.kept K (fun h => h)
theorem there (h : RowAt w b vs) : w.there b 0 vs.length := fun j hj => ⟨by
  have hv : vs[j]? = some vs[j] := List.getElem?_eq_getElem hj
  rw [h.cell j _ hv]; rfl, h.fz _⟩
theorem set (h : RowAt w b vs) {j : Nat} (hj : j < vs.length) (v : Value) : RowAt (w.setCell ⟨b, j, none⟩ v) b (vs.set j v) where
  cell := fun i u hu => by
    have hv : vs[j]? = some vs[j] := List.getElem?_eq_getElem hj
    rw [Nat.zero_add]
    by_cases e : i = j
    · subst e
      rw [List.getElem?_set_self hj] at hu
      injection hu with hu
      subst hu
      exact cell_set_at _ (h.get hv)
    · rw [List.getElem?_set_ne (fun q => e q.symm)] at hu
      rw [cell_set_off _ _ _ _ _ e]
      exact h.get hu
  fz := fun o => by rw [World.frozen?_setCell]; exact h.fz o
  lt := by have := h.lt; simpa using this
theorem new (w : World) (t : Nat) (cs : Array Value) : RowAt (w.alloc (.cells cs t)) w.heap.size cs.toList where
  cell := fun j v hv => by rw [Nat.zero_add, World.cell?_alloc_at _ _ _ _ rfl]; simpa using hv
  fz := fun o => by rw [World.frozen?_alloc_at _ _ _ _ rfl]
  lt := by simp
theorem store (h : RowAt w b vs) (us : List Value) (hl : us.length = vs.length) : RowAt (w.setCells b 0 us) b us where
  cell := World.rangeAt_setCells_same w b 0 us (by rw [hl]; exact h.there)
  fz := fun o => by rw [World.frozen?_setCells]; exact h.fz o
  lt := by
    have : ∀ (us : List Value) (o : Nat) (w : World), (w.setCells b o us).heap.size = w.heap.size := by
      intro us
      induction us with
      | nil => intro o w; rfl
      | cons v r ih => intro o w; rw [World.setCells, ih]; simp
    rw [this]; exact h.lt
end RowAt
theorem Kept.setCells {S : Nat → Prop} {w w' : World} (h : Kept S w w') (b : Nat) (vs : List Value) (hb : b < w.heap.size → S b) : ∀ o, Kept S w (w'.setCells b o vs) := by
  induction vs generalizing w' with
  | nil => intro o; exact h
  | cons v r ih => intro o; rw [World.setCells]; exact ih (h.setCell _ _ hb) _
/-- A block of numbers. -/
abbrev NumsAt (w : World) (b : Nat) (l : List Int) : Prop := RowAt w b (l.map (Value.int .i64))
theorem NumsAt.set {w : World} {b : Nat} {l : List Int} (h : NumsAt w b l) {j : Nat} (hj : j < l.length) (x : Int) : NumsAt (w.setCell ⟨b, j, none⟩ (.int .i64 x)) b (l.set j x) := by
  have := RowAt.set h (j := j) (by simpa using hj) (.int .i64 x)
  unfold NumsAt
  rw [List.map_set]
  exact this
theorem NumsAt.get {w : World} {b : Nat} {l : List Int} (h : NumsAt w b l) {j : Nat} (hj : j < l.length) : w.cell? ⟨b, j, none⟩ = some (.int .i64 (l.getD j 0)) :=
  RowAt.get h (by rw [List.getElem?_map, List.getElem?_eq_getElem hj, List.getD_eq_getElem?_getD, List.getElem?_eq_getElem hj]; rfl)
end Go.Proofs.Ytelgknecainlfaa

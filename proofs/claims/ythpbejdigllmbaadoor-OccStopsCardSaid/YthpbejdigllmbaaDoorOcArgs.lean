/- OcArgs: texts for the statements of this seat: contracts of functions, walks, plain laws. Conditions: none. -/
import Derived.Test.YthpbejdigllmbaaDoorOcPathsW
import Derived.Test.YthpbejdigllmbaaDoorOcChoose
import Derived.ProofKit
import Derived.OpenShut
namespace Go.Proofs.YthpbejdigllmbaaDoor
open Go.RowKit Go.ChangeShapes Go.WideShapes Go.ChangeAt

/-- Bytes that came in, as natural numbers. -/
theorem u8_nats {w : World} {p : Option Addr} {cap : Nat} {xs : List Int}
    (h : ∀ i x, xs[i]? = some x → (Lit.int .u8 x).wf = true ∧ ∃ b off, p = some ⟨b, off, none⟩ ∧ b < w.heap.size ∧ w.cell? ⟨b, off + i, none⟩ = some (.int .u8 x)) :
    ∃ l : List Nat, l.length = xs.length ∧ (∀ x ∈ l, x ≤ 255) ∧ IntsK .u8 w (.slice p xs.length cap) (natI l) := by
  have hb : ∀ x ∈ xs, 0 ≤ x ∧ x ≤ 255 := fun x hx => by
    obtain ⟨i, hi⟩ := List.getElem?_of_mem hx
    have := bounds_u8 (h i x hi).1
    omega
  have e : natI (xs.map Int.toNat) = xs := by
    unfold natI
    rw [List.map_map]
    have : xs.map ((fun x : Nat => (x : Int)) ∘ Int.toNat) = xs.map id := List.map_congr_left fun x hx => by
      simp only [Function.comp, id]
      exact Int.toNat_of_nonneg (hb x hx).1
    rw [this, List.map_id]
  refine ⟨xs.map Int.toNat, by simp, fun x hx => ?_, by rw [e]; exact IntsK.of_args rfl h⟩
  simp only [List.mem_map] at hx
  obtain ⟨y, hy, rfl⟩ := hx
  have := hb y hy
  omega
end Go.Proofs.YthpbejdigllmbaaDoor

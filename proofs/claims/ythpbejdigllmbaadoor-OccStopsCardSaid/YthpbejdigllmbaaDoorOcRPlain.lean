/- OcRPlain: texts for the statements of this seat: contracts of functions, walks, plain laws. Conditions: none. -/
import Derived.Test.YthpbejdigllmbaaDoorOcPlain
namespace Go.Proofs.YthpbejdigllmbaaDoor
/-- The document's count: how many lists lead to each state. -/
def rAdd (c m : List Int) (s j : Nat) : List Int := if leadN s j = -1 then m else m.set (leadN s j).toNat (m.getD (leadN s j).toNat 0 + c.getD s 0)
def rIn (c m : List Int) (s : Nat) : Nat → List Int
  | 0 => m
  | j + 1 => rAdd c (rIn c m s j) s j
def rMid (c : List Int) : Nat → List Int
  | 0 => [0, 0, 0, 0, 0, 0, 0]
  | s + 1 => rIn c (rMid c s) s 6
def rv : Nat → List Int
  | 0 => [1, 0, 0, 0, 0, 0, 0]
  | n + 1 => rMid (rv n) 7
def rsum (c : List Int) : Nat → Int
  | 0 => 0
  | s + 1 => rsum c s + c.getD s 0
def rOk (c : List Int) : Prop := c.length = 7 ∧ (c.all fun x => decide (0 ≤ x) && decide (x ≤ 100)) = true ∧ ∀ s : Fin 8, (rMid c s).length = 7 ∧ ∀ j : Fin 7, (rIn c (rMid c s) s j).length = 7 ∧ ((rIn c (rMid c s) s j).all fun x => decide (0 ≤ x) && decide (x ≤ 100)) = true
instance (c : List Int) : Decidable (rOk c) := by unfold rOk; infer_instance
theorem rv_per : ∀ n, rv (n + 5) = rv (n + 2)
  | 0 => by decide +kernel
  | n + 1 => by
    show rMid (rv (n + 5)) 7 = rMid (rv (n + 2)) 7
    rw [rv_per n]
theorem rv_ok : ∀ n, rOk (rv n)
  | 0 => by decide +kernel
  | 1 => by decide +kernel
  | 2 => by decide +kernel
  | 3 => by decide +kernel
  | 4 => by decide +kernel
  | n + 5 => by rw [rv_per n]; exact rv_ok (n + 2)
theorem rv_sum : ∀ n, rsum (rv n) 7 = (wv n).getD 0 0
  | 0 => by decide +kernel
  | 1 => by decide +kernel
  | 2 => by decide +kernel
  | 3 => by decide +kernel
  | 4 => by decide +kernel
  | n + 5 => by rw [rv_per n]; exact rv_sum (n + 2)
theorem rv_bd (n j : Nat) : 0 ≤ (rv n).getD j 0 ∧ (rv n).getD j 0 ≤ 100 := all_bd (rv_ok n).2.1 j
theorem rIn_bd (n : Nat) {s j : Nat} (hs : s < 8) (hj : j < 7) (i : Nat) : 0 ≤ (rIn (rv n) (rMid (rv n) s) s j).getD i 0 ∧ (rIn (rv n) (rMid (rv n) s) s j).getD i 0 ≤ 100 := all_bd (((rv_ok n).2.2 ⟨s, hs⟩).2 ⟨j, hj⟩).2 i
theorem rIn_len (n : Nat) {s j : Nat} (hs : s < 8) (hj : j < 7) : (rIn (rv n) (rMid (rv n) s) s j).length = 7 := (((rv_ok n).2.2 ⟨s, hs⟩).2 ⟨j, hj⟩).1
theorem rsum_bd (n : Nat) : ∀ s, 0 ≤ rsum (rv n) s ∧ rsum (rv n) s ≤ 100 * s
  | 0 => by simp [rsum]
  | s + 1 => by
    have := rsum_bd n s
    have := rv_bd n s
    simp only [rsum]
    omega
end Go.Proofs.YthpbejdigllmbaaDoor

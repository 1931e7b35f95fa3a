/- OcReaPlain: texts for the statements of this seat: contracts of functions, walks, plain laws. Conditions: none. -/
import Derived.Test.YthpbejdigllmbaaDoorOcChPlain
import Derived.Lib.SlicesCompact
namespace Go.Proofs.YthpbejdigllmbaaDoor
def ins (x : Int) : List Int → List Int
  | [] => [x]
  | y :: r => if x ≤ y then x :: y :: r else y :: ins x r
def isrt : List Int → List Int
  | [] => []
  | x :: r => ins x (isrt r)
def nxt (s k : Nat) : Nat := (lead s ((stepsUpTo s 6).getD k 0)).toNat
def wantN (s : Nat) : Nat → List Int
  | 0 => [(s : Int)]
  | k + 1 => wantN s k ++ reachT (nxt s k)
theorem want_len : ∀ s : Fin 7, ∀ k : Fin 8, (wantN s k).length ≤ 100 := by decide +kernel
theorem reach_len : ∀ s : Fin 7, 0 < (reachT s).length ∧ (reachT s).length ≤ 7 := by decide +kernel
theorem want_sorted : ∀ s : Fin 7, (wantN s (stepsUpTo s 6).length).isPerm (isrt (wantN s (stepsUpTo s 6).length)) = true ∧ (isrt (wantN s (stepsUpTo s 6).length)).Pairwise (· ≤ ·) ∧ Lib.compact (isrt (wantN s (stepsUpTo s 6).length)) = reachT s := by decide +kernel
theorem nxt_ok : ∀ s : Fin 7, ∀ k : Fin 6, k.1 < (stepsUpTo s 6).length → isSp ((stepsUpTo s 6).getD k 0) = true ∧ lead s ((stepsUpTo s 6).getD k 0) = (nxt s k : Int) ∧ nxt s k < 7 := by decide +kernel
theorem reach_has : ∀ s : Fin 7, (reachT s).contains 5 = true ∨ (s.1 = 6 ∧ (reachT s).contains 5 = false ∧ (reachT s).contains 6 = true) := by decide +kernel
theorem reach_one : ∀ s : Fin 7, decide ((reachT s).length = 1) = decide (s.1 = 5 ∨ s.1 = 6) := by decide +kernel
end Go.Proofs.YthpbejdigllmbaaDoor

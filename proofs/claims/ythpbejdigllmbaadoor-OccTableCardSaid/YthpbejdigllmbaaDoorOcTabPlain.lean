/- OcTabPlain: texts for the statements of this seat: contracts of functions, walks, plain laws. Conditions: none. -/
import Derived.Test.YthpbejdigllmbaaDoorOcReaPlain
namespace Go.Proofs.YthpbejdigllmbaaDoor
theorem steps_has : ∀ s : Fin 7, ∀ k : Fin 8, (stepsUpTo s 6).contains (k.1 : Int) = (decide (1 ≤ k.1 ∧ k.1 ≤ 6) && decide (¬ leadN s (k.1 - 1) = -1)) := by decide +kernel
theorem steps_sorted : ∀ s : Fin 7, (stepsUpTo s 6).Pairwise (· ≤ ·) ∧ Lib.compact (stepsUpTo s 6) = stepsUpTo s 6 := by decide +kernel
theorem steps_none : ∀ s : Fin 7, decide ((stepsUpTo s 6).length = 0) = decide (s.1 = 5 ∨ s.1 = 6) := by decide +kernel
end Go.Proofs.YthpbejdigllmbaaDoor

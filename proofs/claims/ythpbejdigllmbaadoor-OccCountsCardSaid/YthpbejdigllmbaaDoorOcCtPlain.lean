/- OcCtPlain: texts for the statements of this seat: contracts of functions, walks, plain laws. Conditions: none. -/
import Derived.Test.YthpbejdigllmbaaDoorOcPlain
namespace Go.Proofs.YthpbejdigllmbaaDoor
/-- How many continuations of so many steps are followed whole. -/
def cntF : Nat → List Int → Nat
  | 0, pre => if (fol 0 pre).length = pre.length then 1 else 0
  | d + 1, pre => cntF d (pre ++ [1]) + cntF d (pre ++ [2]) + cntF d (pre ++ [3]) + cntF d (pre ++ [4]) + cntF d (pre ++ [5]) + cntF d (pre ++ [6])
def cntS (d : Nat) (pre : List Int) : Nat → Nat
  | 0 => 0
  | j + 1 => cntS d pre j + cntF d (pre ++ [(j : Int) + 1])
theorem cntS_all (d : Nat) (pre : List Int) : cntS d pre 6 = cntF (d + 1) pre := by
  simp only [cntS, cntF, Nat.zero_add]
  rfl
theorem cntF_le : ∀ d pre, cntF d pre ≤ 6 ^ d
  | 0, pre => by unfold cntF; split <;> simp
  | d + 1, pre => by
    have h1 := cntF_le d (pre ++ [1])
    have h2 := cntF_le d (pre ++ [2])
    have h3 := cntF_le d (pre ++ [3])
    have h4 := cntF_le d (pre ++ [4])
    have h5 := cntF_le d (pre ++ [5])
    have h6 := cntF_le d (pre ++ [6])
    have : 6 ^ (d + 1) = 6 ^ d * 6 := rfl
    simp only [cntF]
    omega
theorem cntS_le (d : Nat) (pre : List Int) : ∀ j, cntS d pre j ≤ j * 6 ^ d
  | 0 => by simp [cntS]
  | j + 1 => by
    have := cntS_le d pre j
    have h1 := cntF_le d (pre ++ [(j : Int) + 1])
    have h2 : (j + 1) * 6 ^ d = j * 6 ^ d + 6 ^ d := Nat.succ_mul j (6 ^ d)
    simp only [cntS]
    omega
theorem cnt_words : ∀ k : Fin 5, ((cntF k []) : Int) = (wv k).getD 0 0 := by decide +kernel
end Go.Proofs.YthpbejdigllmbaaDoor

/- OcRPlain2: texts for the statements of this seat: contracts of functions, walks, plain laws. Conditions: none. -/
import Derived.Test.YthpbejdigllmbaaDoorOcRPlain
namespace Go.Proofs.YthpbejdigllmbaaDoor
/-- The document's search for what can be reached. -/
def bAdd (B : List Bool) (s j : Nat) : List Bool := if leadN s j = -1 then B else B.set (leadN s j).toNat true
def bIn (B : List Bool) (s : Nat) : Nat → List Bool
  | 0 => B
  | j + 1 => bAdd (bIn B s j) s j
def bMid (B : List Bool) : Nat → List Bool
  | 0 => B
  | k + 1 => if (bMid B k).getD k false then bIn (bMid B k) k 6 else bMid B k
def bOut (B : List Bool) : Nat → List Bool
  | 0 => B
  | i + 1 => bMid (bOut B i) 7
def b0 (s : Nat) : List Bool := (List.replicate 7 false).set s true
theorem bAdd_length (B : List Bool) (s j : Nat) : (bAdd B s j).length = B.length := by unfold bAdd; split <;> simp
theorem bIn_length (B : List Bool) (s j : Nat) : (bIn B s j).length = B.length := by
  induction j with
  | zero => rfl
  | succ j ih => rw [bIn, bAdd_length, ih]
theorem bMid_length (B : List Bool) (k : Nat) : (bMid B k).length = B.length := by
  induction k with
  | zero => rfl
  | succ k ih =>
    rw [bMid]
    split
    · rw [bIn_length, ih]
    · exact ih
theorem bOut_length (B : List Bool) (k : Nat) : (bOut B k).length = B.length := by
  induction k with
  | zero => rfl
  | succ k ih => rw [bOut, bMid_length, ih]
theorem bAdd_keeps {B : List Bool} {s j i : Nat} (h : B.getD i false = true) : (bAdd B s j).getD i false = true := by
  unfold bAdd
  split
  · exact h
  · rw [List.getD_eq_getElem?_getD] at h ⊢
    rw [List.getElem?_set]
    split
    · split <;> simp_all
    · exact h
theorem bIn_keeps {B : List Bool} {s i : Nat} (h : B.getD i false = true) (j : Nat) : (bIn B s j).getD i false = true := by
  induction j with
  | zero => exact h
  | succ j ih => exact bAdd_keeps ih
def selUpTo (B : List Bool) (k : Nat) : List Int := ((List.range k).filter fun j : Nat => B.getD j false).map fun j : Nat => (j : Int)
theorem selUpTo_yes {B : List Bool} {k : Nat} (h : B.getD k false = true) : selUpTo B (k + 1) = selUpTo B k ++ [(k : Int)] := by
  simp [selUpTo, List.range_succ, List.filter_append] at h ⊢
  simp [h]
theorem selUpTo_no {B : List Bool} {k : Nat} (h : B.getD k false = false) : selUpTo B (k + 1) = selUpTo B k := by
  simp [selUpTo, List.range_succ, List.filter_append] at h ⊢
  simp [h]
theorem selUpTo_len (B : List Bool) (k : Nat) : (selUpTo B k).length ≤ k := by
  unfold selUpTo
  rw [List.length_map]
  have := List.length_filter_le (fun j : Nat => B.getD j false) (List.range k)
  simpa using this
theorem sel_reach : ∀ s : Fin 7, selUpTo (bOut (b0 s) 7) 7 = reachT s := by decide +kernel

theorem fol_fst (s : Int) (l : List Int) : (fol s l).map (·.1) = l.take (fol s l).length := by
  induction l generalizing s with
  | nil => simp [fol]
  | cons t r ih =>
    unfold fol
    split
    · simp
    · simp [ih]
theorem count3_fol (l : List Int) : (l.take (fol 0 l).length).count 3 = (fol 0 l).countP fun p => p.1 == 3 := by
  rw [← fol_fst, List.count_eq_countP, List.countP_map]
  rfl
end Go.Proofs.YthpbejdigllmbaaDoor

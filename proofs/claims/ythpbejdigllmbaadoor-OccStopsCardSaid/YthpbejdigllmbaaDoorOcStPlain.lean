/- OcStPlain: texts for the statements of this seat: contracts of functions, walks, plain laws. Conditions: none. -/
import Derived.Test.YthpbejdigllmbaaDoorOcLvPlain
namespace Go.Proofs.YthpbejdigllmbaaDoor
/-- What is followed of a list whose first part is followed whole. -/
theorem fol_append (s : Int) (l r : List Int) (h : (fol s l).length = l.length) : fol s (l ++ r) = fol s l ++ fol (lastS s (fol s l)) r := by
  induction l generalizing s with
  | nil => rfl
  | cons t l ih =>
    unfold fol at h
    split at h
    · simp at h
    · rename_i hn
      simp only [List.length_cons, Nat.add_right_cancel_iff] at h
      rw [List.cons_append, fol, if_neg hn, ih _ h, fol, if_neg hn, lastS_cons]
      rfl
def stepOf (x : Nat) : Int := 1 + (x : Int) % 6
theorem stepOf_sp (x : Nat) : isSp (stepOf x) = true := by unfold stepOf; simp [isSp]; omega
def stepsOf (l : List Nat) : List Int := l.map stepOf
theorem stepsOf_sp (l : List Nat) : allSp (stepsOf l) = true := by
  unfold allSp stepsOf
  rw [List.all_map, List.all_eq_true]
  intro x _
  exact stepOf_sp x
theorem allSp_append (a b : List Int) : allSp (a ++ b) = (allSp a && allSp b) := by unfold allSp; rw [List.all_append]
theorem fol_full (l : List Nat) (r : List Int) : fol 0 (cSteps l ++ r) = chs 0 l ++ fol (lastOf (chs 0 l)) r := by
  rw [fol_append 0 _ _ (by rw [cSteps_fol, cSteps_length]), cSteps_fol]
  rfl
/-- One more step, that is possible. -/
theorem stop_ok (l : List Nat) (x : Nat) (h : ¬ lead (lastOf (chs 0 l)) (stepOf x) = -1) : pathF (cSteps l ++ [stepOf x]) = (lead (lastOf (chs 0 l)) (stepOf x), ((cSteps l).length : Int) + 1, 0) := by
  unfold pathF
  rw [if_pos (by rw [allSp_append, cSteps_sp]; unfold allSp; simp [stepOf_sp]), fol_full]
  rw [fol, if_neg h]
  simp only [fol, lastOf_snoc, List.length_append, List.length_cons, List.length_nil, cSteps_length]
  simp
/-- One that is not, whatever comes behind. -/
theorem stop_no (l r : List Nat) (x : Nat) (h : lead (lastOf (chs 0 l)) (stepOf x) = -1) : pathF (cSteps l ++ [stepOf x] ++ stepsOf r) = (lastOf (chs 0 l), ((cSteps l).length : Int), 0) := by
  unfold pathF
  rw [if_pos (by rw [allSp_append, allSp_append, cSteps_sp, stepsOf_sp]; unfold allSp; simp [stepOf_sp]), List.append_assoc, fol_full]
  rw [List.cons_append, fol, if_pos h, List.append_nil, cSteps_length]
theorem bad_path (A : List Int) (b : Int) (h : isSp b = false) : pathF (A ++ [b]) = (0, 0, 3) := by
  unfold pathF
  rw [if_neg]
  rw [allSp_append]
  unfold allSp
  simp [h]
theorem bad_att (A : List Int) (b : Int) (h : isSp b = false) : attF (b :: A) = (0, 3) := by
  unfold attF
  rw [if_neg]
  unfold allSp
  simp [h]
theorem stepsOf_take (l : List Nat) (k x : Nat) (h : l[k]? = some x) : stepsOf (l.take (k + 1)) = stepsOf (l.take k) ++ [stepOf x] := by
  obtain ⟨hk, rfl⟩ := List.getElem?_eq_some_iff.1 h
  unfold stepsOf
  rw [List.take_succ_eq_append_getElem hk, List.map_append]
  rfl
end Go.Proofs.YthpbejdigllmbaaDoor

/- OcChPlain: texts for the statements of this seat: contracts of functions, walks, plain laws. Conditions: none. -/
import Derived.Test.YthpbejdigllmbaaDoorOcRPlain2
namespace Go.Proofs.YthpbejdigllmbaaDoor
/-- The steps that the numbers choose, each with its state. -/
def pick (s x : Nat) : Int := (stepsUpTo s 6).getD (x % (stepsUpTo s 6).length) 0
def chs (s : Nat) : List Nat → List (Int × Int)
  | [] => []
  | x :: r => if stepsUpTo s 6 = [] then [] else (pick s x, lead s (pick s x)) :: chs (lead s (pick s x)).toNat r
theorem steps_ok : ∀ s : Fin 7, ∀ t ∈ stepsUpTo s.1 6, isSp t = true ∧ lead s.1 t ≠ -1 := by decide +kernel
theorem pick_mem {s x : Nat} (h : stepsUpTo s 6 ≠ []) : pick s x ∈ stepsUpTo s 6 := by
  have hl : 0 < (stepsUpTo s 6).length := List.length_pos_iff.2 h
  unfold pick
  rw [List.getD_eq_getElem?_getD, List.getElem?_eq_getElem (Nat.mod_lt _ hl)]
  exact List.getElem_mem _
theorem pick_ok {s x : Nat} (hs : s < 7) (h : stepsUpTo s 6 ≠ []) : isSp (pick s x) = true ∧ lead s (pick s x) ≠ -1 := steps_ok ⟨s, hs⟩ _ (pick_mem h)
theorem pick_st {s x : Nat} (hs : s < 7) (h : stepsUpTo s 6 ≠ []) : 0 ≤ lead s (pick s x) ∧ (lead s (pick s x)).toNat < 7 := by
  obtain ⟨h1, h2⟩ := pick_ok (x := x) hs h
  have := lead_bd (s := (s : Int)) (by simp [isSt]; omega) h1
  omega
/-- What is chosen is followed. -/
theorem fol_chs (s : Nat) (hs : s < 7) (l : List Nat) : fol s ((chs s l).map (·.1)) = chs s l := by
  induction l generalizing s with
  | nil => rfl
  | cons x r ih =>
    unfold chs
    split
    · rfl
    · rename_i h
      obtain ⟨h1, h2⟩ := pick_ok (x := x) hs h
      obtain ⟨h3, h4⟩ := pick_st (x := x) hs h
      simp only [List.map_cons, fol, if_neg h2]
      have := ih _ h4
      rw [Int.toNat_of_nonneg h3] at this
      rw [this]
theorem chs_sp (s : Nat) (hs : s < 7) (l : List Nat) : allSp ((chs s l).map (·.1)) = true := by
  induction l generalizing s with
  | nil => rfl
  | cons x r ih =>
    unfold chs
    split
    · rfl
    · rename_i h
      obtain ⟨h1, h2⟩ := pick_ok (x := x) hs h
      obtain ⟨h3, h4⟩ := pick_st (x := x) hs h
      have := ih _ h4
      unfold allSp at this ⊢
      rw [List.map_cons, List.all_cons, this, h1]
      rfl
theorem chs_length (s : Nat) (l : List Nat) : (chs s l).length ≤ l.length := by
  induction l generalizing s with
  | nil => simp [chs]
  | cons x r ih => unfold chs; split <;> simp; exact ih _
theorem chs_stop {s : Nat} {l : List Nat} {k x : Nat} (hk : l[k]? = some x) (h : stepsUpTo s 6 = []) : chs s (l.drop k) = [] := by
  obtain ⟨h1, rfl⟩ := List.getElem?_eq_some_iff.1 hk
  rw [List.drop_eq_getElem_cons h1, chs, if_pos h]
theorem chs_on {s : Nat} {l : List Nat} {k x : Nat} (hk : l[k]? = some x) (h : ¬ stepsUpTo s 6 = []) : chs s (l.drop k) = (pick s x, lead s (pick s x)) :: chs (lead s (pick s x)).toNat (l.drop (k + 1)) := by
  obtain ⟨h1, rfl⟩ := List.getElem?_eq_some_iff.1 hk
  rw [List.drop_eq_getElem_cons h1, chs, if_neg h]
theorem chs_end {s : Nat} {l : List Nat} {k : Nat} (hk : l.length ≤ k) : chs s (l.drop k) = [] := by
  rw [List.drop_eq_nil_of_le hk]; rfl
def cSteps (l : List Nat) : List Int := (chs 0 l).map (·.1)
def cStates (l : List Nat) : List Int := 0 :: (chs 0 l).map (·.2)
theorem cSteps_fol (l : List Nat) : fol 0 (cSteps l) = chs 0 l := fol_chs 0 (by omega) l
theorem cSteps_sp (l : List Nat) : allSp (cSteps l) = true := chs_sp 0 (by omega) l
theorem cStates_length (l : List Nat) : (cStates l).length = (cSteps l).length + 1 := by simp [cStates, cSteps]
theorem cSteps_length (l : List Nat) : (cSteps l).length = (chs 0 l).length := by simp [cSteps]
theorem cSteps_le (l : List Nat) : (cSteps l).length ≤ l.length := by rw [cSteps_length]; exact chs_length 0 l
theorem cStates_last (l : List Nat) : (cStates l)[(cSteps l).length]? = some (lastOf (chs 0 l)) := by
  unfold cStates cSteps
  rw [List.length_map]
  cases h : (chs 0 l).length with
  | zero => rw [List.eq_nil_of_length_eq_zero h]; rfl
  | succ k =>
    rw [List.getElem?_cons_succ, List.getElem?_map, lastOf, List.getLast?_eq_getElem?, h]
    have : k < (chs 0 l).length := by omega
    simp [List.getElem?_eq_getElem this]
/-- A chain of possible steps, each with its state. -/
def ChainP : Nat → List (Int × Int) → Prop
  | _, [] => True
  | s, p :: r => p.1 ∈ stepsUpTo s 6 ∧ p.2 = lead s p.1 ∧ s < 7 ∧ ChainP p.2.toNat r
theorem chs_chain (s : Nat) (hs : s < 7) (l : List Nat) : ChainP s (chs s l) := by
  induction l generalizing s with
  | nil => exact trivial
  | cons x r ih =>
    unfold chs
    split
    · exact trivial
    · rename_i h
      exact ⟨pick_mem h, rfl, hs, ih _ (pick_st (x := x) hs h).2⟩
end Go.Proofs.YthpbejdigllmbaaDoor

/- The plain law of package occ: states, steps, and what is followed of a list. -/
import Derived.WalkKit
namespace Go.Proofs.YthpbejdigllmbaaDoor

/-- The table of the steps. -/
def octab : List Int := [1, 2, -1, -1, -1, 6, -1, 2, -1, -1, -1, 6, -1, -1, 3, -1, -1, 6, -1, -1, -1, 5, 4, -1, -1, 2, -1, -1, -1, 6, -1, -1, -1, -1, -1, -1, -1, -1, -1, -1, -1, -1]
def leadN (s t : Nat) : Int := octab.getD (s * 6 + t) 0
/-- Where the step t leads from the state s; -1: nowhere. -/
def lead (s t : Int) : Int := leadN s.toNat (t.toNat - 1)
def isSt (s : Int) : Bool := decide (0 ≤ s) && decide (s < 7)
def isSp (t : Int) : Bool := decide (1 ≤ t) && decide (t < 7)
/-- Step: the state and the error. -/
def stepF (s t : Int) : Int × Int :=
  if isSt s && isSp t then (if lead s t = -1 then (0, 9) else (lead s t, 0)) else (0, 3)
theorem leadN_bd : ∀ s t : Fin 7, -1 ≤ leadN s t ∧ leadN s t ≤ 6 := by decide +kernel
theorem lead_bd {s t : Int} (h1 : isSt s = true) (h2 : isSp t = true) : -1 ≤ lead s t ∧ lead s t ≤ 6 := by
  simp [isSt, isSp] at h1 h2
  have := leadN_bd ⟨s.toNat, by omega⟩ ⟨t.toNat - 1, by omega⟩
  exact this
theorem lead_st {s t : Int} (h1 : isSt s = true) (h2 : isSp t = true) (h : ¬ lead s t = -1) : isSt (lead s t) = true := by
  have := lead_bd h1 h2
  simp [isSt]; omega

/-- What is followed: the steps, each with the state to which it leads. -/
def fol (s : Int) : List Int → List (Int × Int)
  | [] => []
  | t :: r => if lead s t = -1 then [] else (t, lead s t) :: fol (lead s t) r
/-- The state behind what was followed. -/
def lastOf (l : List (Int × Int)) : Int := match l.getLast? with | some p => p.2 | none => 0
theorem lastOf_snoc (l : List (Int × Int)) (p : Int × Int) : lastOf (l ++ [p]) = p.2 := by simp [lastOf]
theorem fol_length (s : Int) (l : List Int) : (fol s l).length ≤ l.length := by
  induction l generalizing s with
  | nil => simp [fol]
  | cons t r ih => unfold fol; split <;> simp; exact ih _
theorem fol_stop {s : Int} {l : List Int} {k : Nat} {t : Int} (hk : l[k]? = some t) (h : lead s t = -1) : fol s (l.drop k) = [] := by
  have hl := (List.getElem?_eq_some_iff.1 hk)
  obtain ⟨h1, rfl⟩ := hl
  rw [List.drop_eq_getElem_cons h1, fol, if_pos h]
theorem fol_on {s : Int} {l : List Int} {k : Nat} {t : Int} (hk : l[k]? = some t) (h : ¬ lead s t = -1) : fol s (l.drop k) = (t, lead s t) :: fol (lead s t) (l.drop (k + 1)) := by
  have hl := (List.getElem?_eq_some_iff.1 hk)
  obtain ⟨h1, rfl⟩ := hl
  rw [List.drop_eq_getElem_cons h1, fol, if_neg h]
theorem fol_end {s : Int} {l : List Int} {k : Nat} (hk : l.length ≤ k) : fol s (l.drop k) = [] := by
  rw [List.drop_eq_nil_of_le hk]; rfl
def allSp (l : List Int) : Bool := l.all isSp
/-- Path: the state, how many, the error. -/
def pathF (l : List Int) : Int × Int × Int := if allSp l then (lastOf (fol 0 l), (fol 0 l).length, 0) else (0, 0, 3)
/-- Attempts. -/
def attF (l : List Int) : Int × Int := if allSp l then (((fol 0 l).countP fun p => p.1 == 3 : Nat), 0) else (0, 3)

/-- Words: for each state how many lists of n steps can be followed. -/
def wv : Nat → List Int
  | 0 => [1, 1, 1, 1, 1, 1, 1]
  | 1 => [3, 2, 2, 2, 2, 0, 0]
  | _ + 2 => [4, 2, 2, 2, 2, 0, 0]
def wordsF (n : Int) : Int × Int := if 0 ≤ n ∧ n ≤ 60 then ((wv n.toNat).getD 0 0, 0) else (0, 3)

/-- Steps. -/
def stepsUpTo (s k : Nat) : List Int := ((List.range k).filter fun j : Nat => !(leadN s j == -1)).map fun j : Nat => (j : Int) + 1
theorem stepsUpTo_yes {s k : Nat} (h : ¬ leadN s k = -1) : stepsUpTo s (k + 1) = stepsUpTo s k ++ [(k : Int) + 1] := by
  simp [stepsUpTo, List.range_succ, List.filter_append, h]
theorem stepsUpTo_no {s k : Nat} (h : leadN s k = -1) : stepsUpTo s (k + 1) = stepsUpTo s k := by
  simp [stepsUpTo, List.range_succ, List.filter_append, h]
def stepsF (s : Int) : List Int × Int := if isSt s then (stepsUpTo s.toNat 6, 0) else ([], 3)
def endsF (s : Int) : Bool × Int := if isSt s then (decide (s = 5 ∨ s = 6), 0) else (false, 3)

/-- Reach: one round of the inner loop. -/
def rin (out : List Int) (n : Int) : List Int := if !(n == -1) && !(out.contains n) then out ++ [n] else out
def row6 (s : Nat) : List Int := (List.range 6).map fun j => leadN s j
/-- What is known before the round k of the outer loop. -/
def rout (s : Nat) : Nat → List Int
  | 0 => [(s : Int)]
  | k + 1 => if k < (rout s k).length then (row6 ((rout s k).getD k 0).toNat).foldl rin (rout s k) else rout s k
def routJ (s k j : Nat) : List Int := ((row6 ((rout s k).getD k 0).toNat).take j).foldl rin (rout s k)
def reachT (s : Nat) : List Int := [[0, 1, 2, 3, 4, 5, 6], [1, 2, 3, 4, 5, 6], [2, 3, 4, 5, 6], [2, 3, 4, 5, 6], [2, 3, 4, 5, 6], [5], [6]].getD s []
theorem rout_len : ∀ s : Fin 7, ∀ k : Fin 8, (rout s k).length ≤ 7 ∧ (rout s k).all isSt = true := by decide +kernel
theorem routJ_len : ∀ s : Fin 7, ∀ k : Fin 8, ∀ j : Fin 7, (routJ s k j).length ≤ 7 ∧ (routJ s k j).all isSt = true := by decide +kernel
end Go.Proofs.YthpbejdigllmbaaDoor
namespace Go.Proofs.YthpbejdigllmbaaDoor
/-- One step of the count: what the step j of the state s adds. -/
def wAdd (c m : List Int) (s j : Nat) : List Int := if leadN s j = -1 then m else m.set s (m.getD s 0 + c.getD (leadN s j).toNat 0)
def wIn (c m : List Int) (s : Nat) : Nat → List Int
  | 0 => m
  | j + 1 => wAdd c (wIn c m s j) s j
def wMid (c : List Int) : Nat → List Int
  | 0 => [0, 0, 0, 0, 0, 0, 0]
  | s + 1 => wIn c (wMid c s) s 6
def wOk (c : List Int) : Prop := c.length = 7 ∧ (c.all fun x => decide (0 ≤ x) && decide (x ≤ 100)) = true ∧ ∀ s : Fin 8, (wMid c s).length = 7 ∧ ∀ j : Fin 7, (wIn c (wMid c s) s j).length = 7 ∧ ((wIn c (wMid c s) s j).all fun x => decide (0 ≤ x) && decide (x ≤ 100)) = true
instance (c : List Int) : Decidable (wOk c) := by unfold wOk; infer_instance
theorem wv_ok : ∀ n, wOk (wv n)
  | 0 => by decide +kernel
  | 1 => by decide +kernel
  | _ + 2 => by show wOk [4, 2, 2, 2, 2, 0, 0]; decide +kernel
theorem wv_next : ∀ n, wMid (wv n) 7 = wv (n + 1)
  | 0 => by decide +kernel
  | 1 => by decide +kernel
  | _ + 2 => by show wMid [4, 2, 2, 2, 2, 0, 0] 7 = [4, 2, 2, 2, 2, 0, 0]; decide +kernel
theorem all_bd {l : List Int} (h : (l.all fun x => decide (0 ≤ x) && decide (x ≤ 100)) = true) (j : Nat) : 0 ≤ l.getD j 0 ∧ l.getD j 0 ≤ 100 := by
  rw [List.all_eq_true] at h
  rw [List.getD_eq_getElem?_getD]
  cases e : l[j]? with
  | none => simp
  | some x => have := h x (List.mem_of_getElem? e); simp at this; simpa using this
theorem wv_bd (n j : Nat) : 0 ≤ (wv n).getD j 0 ∧ (wv n).getD j 0 ≤ 100 := all_bd (wv_ok n).2.1 j
theorem wIn_bd (n : Nat) {s j : Nat} (hs : s < 8) (hj : j < 7) (i : Nat) : 0 ≤ (wIn (wv n) (wMid (wv n) s) s j).getD i 0 ∧ (wIn (wv n) (wMid (wv n) s) s j).getD i 0 ≤ 100 := all_bd (((wv_ok n).2.2 ⟨s, hs⟩).2 ⟨j, hj⟩).2 i
end Go.Proofs.YthpbejdigllmbaaDoor
namespace Go.Proofs.YthpbejdigllmbaaDoor
theorem rout_mono : ∀ s : Fin 7, ∀ k : Fin 7, k.1 < (rout s k).length → k.1 + 1 ≤ (rout s (k + 1)).length := by decide +kernel
theorem rout_len0 : ∀ s : Fin 7, ∀ k : Fin 8, k.1 ≤ (rout s k).length → k.1 ≤ 7 := by decide +kernel
theorem rout_end : ∀ s : Fin 7, ∀ k : Fin 8, (rout s k).length = k.1 → ((rout s k).isPerm (reachT s) = true ∧ (reachT s).Pairwise (· ≤ ·)) := by decide +kernel
theorem routJ_zero (s k : Nat) : routJ s k 0 = rout s k := rfl
theorem routJ_end (s k : Nat) (h : k < (rout s k).length) : routJ s k 6 = rout s (k + 1) := by
  unfold routJ
  rw [List.take_of_length_le (by simp [row6]), rout, if_pos h]
theorem routJ_succ (s k j : Nat) (hj : j < 6) : routJ s k (j + 1) = rin (routJ s k j) (leadN ((rout s k).getD k 0).toNat j) := by
  unfold routJ
  have hl : j < (row6 ((rout s k).getD k 0).toNat).length := by simp [row6]; exact hj
  rw [List.take_succ_eq_append_getElem hl, List.foldl_append]
  simp [row6]
def reachF (s : Int) : List Int × Int := if isSt s then (reachT s.toNat, 0) else ([], 3)
end Go.Proofs.YthpbejdigllmbaaDoor

/- OcLvPlain: texts for the statements of this seat: contracts of functions, walks, plain laws. Conditions: none. -/
import Derived.Test.YthpbejdigllmbaaDoorOcChPlain
namespace Go.Proofs.YthpbejdigllmbaaDoor
def lastS (s : Int) (P : List (Int × Int)) : Int := match P.getLast? with | some p => p.2 | none => s
theorem lastS_zero (P : List (Int × Int)) : lastS 0 P = lastOf P := rfl
theorem lastS_cons (s : Int) (p : Int × Int) (r : List (Int × Int)) : lastS s (p :: r) = lastS p.2 r := by
  unfold lastS
  cases r with
  | nil => rfl
  | cons q r =>
    obtain ⟨x, hx⟩ : ∃ x, (q :: r).getLast? = some x := ⟨_, List.getLast?_eq_some_getLast (by simp)⟩
    rw [List.getLast?_cons_cons, hx]
theorem step_cases : ∀ s : Fin 7, ∀ t ∈ stepsUpTo s.1 6, (s.1 = 0 ∧ t = 1 ∧ lead s.1 t = 1) ∨ (s.1 = 0 ∧ t = 2 ∧ lead s.1 t = 2) ∨ (s.1 = 0 ∧ t = 6 ∧ lead s.1 t = 6) ∨ (s.1 = 1 ∧ t = 2 ∧ lead s.1 t = 2) ∨ (s.1 = 1 ∧ t = 6 ∧ lead s.1 t = 6) ∨ (s.1 = 2 ∧ t = 3 ∧ lead s.1 t = 3) ∨ (s.1 = 2 ∧ t = 6 ∧ lead s.1 t = 6) ∨ (s.1 = 3 ∧ t = 4 ∧ lead s.1 t = 5) ∨ (s.1 = 3 ∧ t = 5 ∧ lead s.1 t = 4) ∨ (s.1 = 4 ∧ t = 2 ∧ lead s.1 t = 2) ∨ (s.1 = 4 ∧ t = 6 ∧ lead s.1 t = 6) := by decide +kernel
theorem chain_end {s : Nat} {P : List (Int × Int)} (h : ChainP s P) (hs : s = 5 ∨ s = 6) : P = [] := by
  cases P with
  | nil => rfl
  | cons p r =>
    have h1 := h.1
    rcases hs with rfl | rfl <;> exact absurd h1 (by rw [show stepsUpTo _ 6 = [] from rfl]; simp)
def cnt (P : List (Int × Int)) (x : Int) : Nat := (P.map (·.1)).count x
theorem cnt_cons (p : Int × Int) (r : List (Int × Int)) (x : Int) : cnt (p :: r) x = cnt r x + if p.1 = x then 1 else 0 := by
  unfold cnt
  rw [List.map_cons, List.count_cons]
  simp
theorem chain_inv (P : List (Int × Int)) : ∀ s : Nat, s < 7 → ChainP s P →
    cnt P 3 + (if s = 3 then 1 else 0) = cnt P 4 + cnt P 5 + (if lastS s P = 3 then 1 else 0) ∧ cnt P 4 + (if lastS s P = 3 then 1 else 0) ≤ 1 := by
  induction P with
  | nil =>
    intro s hs _
    have e : ((s : Int) = 3) ↔ s = 3 := by omega
    simp only [cnt, lastS, List.map_nil, List.count_nil, List.getLast?_nil, e]
    split <;> simp
  | cons p r ih =>
    intro s hs h
    obtain ⟨t, n⟩ := p
    obtain ⟨h1, h2, h3, h4⟩ := h
    simp only at h1 h2 h4
    have hc := step_cases ⟨s, hs⟩ t h1
    simp only at hc
    rw [lastS_cons]
    simp only [cnt_cons]
    rcases hc with ⟨rfl, rfl, h5⟩ | ⟨rfl, rfl, h5⟩ | ⟨rfl, rfl, h5⟩ | ⟨rfl, rfl, h5⟩ | ⟨rfl, rfl, h5⟩ | ⟨rfl, rfl, h5⟩ | ⟨rfl, rfl, h5⟩ | ⟨rfl, rfl, h5⟩ | ⟨rfl, rfl, h5⟩ | ⟨rfl, rfl, h5⟩ | ⟨rfl, rfl, h5⟩
    all_goals
      have h2' := h2.trans h5
      subst h2'
      clear h2 h5
    · have h6 := ih 1 (by omega) h4; simp at h6 ⊢; omega
    · have h6 := ih 2 (by omega) h4; simp at h6 ⊢; omega
    · obtain rfl := chain_end (s := 6) h4 (.inr rfl); simp [cnt, lastS]
    · have h6 := ih 2 (by omega) h4; simp at h6 ⊢; omega
    · obtain rfl := chain_end (s := 6) h4 (.inr rfl); simp [cnt, lastS]
    · have h6 := ih 3 (by omega) h4; simp at h6 ⊢; omega
    · obtain rfl := chain_end (s := 6) h4 (.inr rfl); simp [cnt, lastS]
    · obtain rfl := chain_end (s := 5) h4 (.inl rfl); simp [cnt, lastS]
    · have h6 := ih 4 (by omega) h4; simp at h6 ⊢; omega
    · have h6 := ih 2 (by omega) h4; simp at h6 ⊢; omega
    · obtain rfl := chain_end (s := 6) h4 (.inr rfl); simp [cnt, lastS]
theorem chain_at (P : List (Int × Int)) : ∀ s : Nat, s < 7 → ChainP s P → ∀ (i : Nat) (p : Int × Int), P[i]? = some p →
    ∃ si : Nat, si < 7 ∧ ((s : Int) :: P.map (·.2))[i]? = some (si : Int) ∧ p.1 ∈ stepsUpTo si 6 ∧ p.2 = lead si p.1 ∧ (p.2 = 5 ∨ p.2 = 6 → i + 1 = P.length) := by
  induction P with
  | nil => intro s hs h i p hp; simp at hp
  | cons q r ih =>
    intro s hs h i p hp
    obtain ⟨h1, h2, h3, h4⟩ := h
    cases i with
    | zero =>
      simp at hp
      subst hp
      refine ⟨s, hs, rfl, h1, h2, fun h5 => ?_⟩
      have : r = [] := chain_end (s := q.2.toNat) h4 (by omega)
      simp [this]
    | succ i =>
      have hq : 0 ≤ q.2 ∧ q.2.toNat < 7 := by
        have h5 := steps_ok ⟨s, hs⟩ q.1 h1
        have := lead_bd (s := (s : Int)) (by simp [isSt]; omega) h5.1
        have h6 := h5.2
        rw [h2]
        simp only at h6
        omega
      obtain ⟨si, h5, h6, h7, h8, h9⟩ := ih q.2.toNat hq.2 h4 i p (by simpa using hp)
      refine ⟨si, h5, ?_, h7, h8, fun h10 => by have := h9 h10; simp; omega⟩
      rw [Int.toNat_of_nonneg hq.1] at h6
      rw [List.map_cons, List.getElem?_cons_succ]
      exact h6
theorem end_iff : ∀ s : Fin 7, ∀ t ∈ stepsUpTo s.1 6, (lead s.1 t = 5 ∨ lead s.1 t = 6) ↔ (t = 4 ∨ t = 6) := by
  intro s t ht
  have := step_cases s t ht
  obtain ⟨s, hs⟩ := s
  simp only at this ⊢
  rcases this with ⟨rfl, rfl, h5⟩ | ⟨rfl, rfl, h5⟩ | ⟨rfl, rfl, h5⟩ | ⟨rfl, rfl, h5⟩ | ⟨rfl, rfl, h5⟩ | ⟨rfl, rfl, h5⟩ | ⟨rfl, rfl, h5⟩ | ⟨rfl, rfl, h5⟩ | ⟨rfl, rfl, h5⟩ | ⟨rfl, rfl, h5⟩ | ⟨rfl, rfl, h5⟩ <;> rw [h5] <;> decide
/-- What the walk of the law needs at the index i. -/
theorem life_at (l : List Nat) (i : Nat) (t : Int) (h : (cSteps l)[i]? = some t) :
    ∃ q : Int, (cStates l)[i]? = some q ∧ (t = 4 ∨ t = 6 → i + 1 = (cSteps l).length) ∧ (t = 6 → q ≠ 3) ∧ (t = 3 → q = 2) := by
  unfold cSteps at h
  rw [List.getElem?_map] at h
  obtain ⟨p, hp, rfl⟩ := Option.map_eq_some_iff.1 h
  obtain ⟨si, h1, h2, h3, h4, h5⟩ := chain_at _ 0 (by omega) (chs_chain 0 (by omega) l) i p hp
  refine ⟨si, h2, fun ht => ?_, fun ht => ?_, fun ht => ?_⟩
  · rw [cSteps_length]
    exact h5 (by rw [h4]; exact (end_iff ⟨si, h1⟩ _ h3).2 ht)
  · have := step_cases ⟨si, h1⟩ _ h3
    simp only at this
    omega
  · have := step_cases ⟨si, h1⟩ _ h3
    simp only at this
    omega
theorem life_counts (l : List Nat) : ((cSteps l).count 3 : Int) = (cSteps l).count 4 + (cSteps l).count 5 + (if lastOf (chs 0 l) = 3 then 1 else 0) ∧ ((cSteps l).count 4 : Int) + (if lastOf (chs 0 l) = 3 then 1 else 0) ≤ 1 := by
  have := chain_inv _ 0 (by omega) (chs_chain 0 (by omega) l)
  rw [show lastS ((0 : Nat) : Int) (chs 0 l) = lastOf (chs 0 l) from rfl] at this
  unfold cnt at this
  unfold cSteps
  by_cases h : lastOf (chs 0 l) = 3
  · rw [if_pos h] at this ⊢; simp at this; omega
  · rw [if_neg h] at this ⊢; simp at this; omega
theorem life_end (l : List Nat) : (endsF (lastOf (chs 0 l))) = (match (cSteps l).getLast? with | some t => decide (t = 4 ∨ t = 6) | none => false, 0) := by
  unfold cSteps
  rw [List.getLast?_map]
  cases h : (chs 0 l).getLast? with
  | none => unfold lastOf; rw [h]; rfl
  | some p =>
    have hp : (chs 0 l)[(chs 0 l).length - 1]? = some p := by rw [← List.getLast?_eq_getElem?]; exact h
    obtain ⟨si, h1, h2, h3, h4, h5⟩ := chain_at _ 0 (by omega) (chs_chain 0 (by omega) l) _ p hp
    have hl : lastOf (chs 0 l) = p.2 := by unfold lastOf; rw [h]
    have h6 := steps_ok ⟨si, h1⟩ p.1 h3
    have h7 := lead_bd (s := (si : Int)) (by simp [isSt]; omega) h6.1
    have h8 := end_iff ⟨si, h1⟩ p.1 h3
    have h9 := h6.2
    simp only at h8 h9
    rw [hl, h4]
    unfold endsF
    rw [if_pos (by simp [isSt]; omega)]
    simp [h8]
theorem last_st (l : List Nat) : 0 ≤ lastOf (chs 0 l) ∧ lastOf (chs 0 l) < 7 := by
  unfold lastOf
  cases h : (chs 0 l).getLast? with
  | none => simp
  | some p =>
    have hp : (chs 0 l)[(chs 0 l).length - 1]? = some p := by rw [← List.getLast?_eq_getElem?]; exact h
    obtain ⟨si, h1, h2, h3, h4, h5⟩ := chain_at _ 0 (by omega) (chs_chain 0 (by omega) l) _ p hp
    have h6 := steps_ok ⟨si, h1⟩ p.1 h3
    have h7 := lead_bd (s := (si : Int)) (by simp [isSt]; omega) h6.1
    have h9 := h6.2
    simp only at h9 ⊢
    rw [h4]
    omega
theorem life_path (l : List Nat) : pathF (cSteps l) = (lastOf (chs 0 l), ((cSteps l).length : Int), 0) := by
  unfold pathF
  rw [cSteps_sp, cSteps_fol, cSteps_length]
  rfl
theorem life_att (l : List Nat) : attF (cSteps l) = ((((cSteps l).count 3 : Nat) : Int), 0) := by
  unfold attF
  rw [cSteps_sp, cSteps_fol]
  simp only [if_true, Prod.mk.injEq, and_true]
  unfold cSteps
  rw [List.count_eq_countP, List.countP_map]
  rfl
end Go.Proofs.YthpbejdigllmbaaDoor

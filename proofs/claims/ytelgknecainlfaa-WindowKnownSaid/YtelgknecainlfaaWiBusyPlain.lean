/- How many times have a run: counting by sorted turns. -/
import Derived.Test.YtelgknecainlfaaWiPkPlain
namespace Go.Proofs.Ytelgknecainlfaa
open Go.RowKit
open Wi (vld Srt chk)

/-- How many of the m times from a on p allows. -/
def cntR (p : Int → Bool) (a : Int) (m : Nat) : Nat := (List.range m).countP (fun (i : Nat) => p (a + (i : Int)))
theorem cntR_succ (p : Int → Bool) (a : Int) (m : Nat) : cntR p a (m + 1) = cntR p a m + if p (a + (m : Int)) = true then 1 else 0 := by
  unfold cntR
  rw [List.range_succ, List.countP_append]
  simp [List.countP_cons]
theorem cntR_congr {p q : Int → Bool} {a : Int} {m : Nat} (h : ∀ i : Nat, i < m → p (a + (i : Int)) = q (a + (i : Int))) : cntR p a m = cntR q a m := by
  unfold cntR
  refine List.countP_congr fun i hi => ?_
  rw [h i (List.mem_range.1 hi)]
theorem cntR_add (p : Int → Bool) (a : Int) (m k : Nat) : cntR p a (m + k) = cntR p a m + cntR p (a + (m : Int)) k := by
  induction k with
  | zero => rfl
  | succ k ih =>
    rw [← Nat.add_assoc, cntR_succ, cntR_succ, ih, Int.natCast_add, Int.add_assoc]
    omega
theorem cntR_all {p : Int → Bool} {a : Int} {m : Nat} (h : ∀ i : Nat, i < m → p (a + (i : Int)) = true) : cntR p a m = m := by
  unfold cntR
  rw [List.countP_eq_length.2 (fun i hi => h i (List.mem_range.1 hi)), List.length_range]
theorem cntR_none {p : Int → Bool} {a : Int} {m : Nat} (h : ∀ i : Nat, i < m → p (a + (i : Int)) = false) : cntR p a m = 0 := by
  unfold cntR
  rw [List.countP_eq_zero]
  intro i hi
  rw [h i (List.mem_range.1 hi)]
  decide
theorem cntR_le (p : Int → Bool) (a : Int) (m : Nat) : cntR p a m ≤ m := by
  unfold cntR
  have := List.countP_le_length (p := fun i => p (a + ((i : Nat) : Int))) (l := List.range m)
  rwa [List.length_range] at this
def inR (u x t : Int) : Bool := decide (u ≤ t) && decide (t < x)
theorem cntR_span (u x a : Int) (m : Nat) : (cntR (inR u x) a m : Int) = max 0 (min (x - 1) (a + m - 1) - max u a + 1) := by
  induction m with
  | zero => show (0 : Int) = _; omega
  | succ m ih =>
    rw [cntR_succ]
    unfold inR at *
    by_cases h1 : u ≤ a + (m : Int) <;> by_cases h2 : a + (m : Int) < x <;> simp only [h1, h2, decide_true, decide_false, Bool.and_true, Bool.and_false, Bool.false_eq_true, if_true, if_false] <;> omega
theorem cntR_split {p q r : Int → Bool} {a : Int} {m : Nat} (h : ∀ t, p t = (q t || r t) ∧ (q t && r t) = false) : cntR p a m = cntR q a m + cntR r a m := by
  induction m with
  | zero => rfl
  | succ m ih =>
    rw [cntR_succ, cntR_succ, cntR_succ, ih]
    obtain ⟨h1, h2⟩ := h (a + (m : Int))
    rw [h1]
    cases hq : q (a + (m : Int)) <;> cases hr : r (a + (m : Int))
    · simp
    · simp; omega
    · simp; omega
    · rw [hq, hr] at h2; cases h2
/-- Whether a run is under way. -/
def bz (f g : List Int) (t : Int) : Bool := decide (0 < atF f g t)
theorem bz_iff {f g : List Int} {t : Int} : bz f g t = true ↔ ∃ (q : Nat) (x y : Int), f[q]? = some x ∧ g[q]? = some y ∧ x ≤ t ∧ t < y := by
  unfold bz atF
  rw [decide_eq_true_eq, List.countP_pos_iff]
  constructor
  · rintro ⟨⟨x, y⟩, hm, h⟩
    obtain ⟨q, hq⟩ := List.getElem?_of_mem hm
    rw [List.getElem?_zip_eq_some] at hq
    simp [runB] at h
    exact ⟨q, x, y, hq.1, hq.2, h.1, h.2⟩
  · rintro ⟨q, x, y, hx, hy, h1, h2⟩
    exact ⟨(x, y), List.mem_of_getElem? (zip_at hx hy), by simp [runB, h1, h2]⟩
def busyF (f g : List Int) (a b : Int) : Nat := cntR (bz f g) a (b - a + 1).toNat
/-- Some of the first j turns is later. -/
def bfr (d : List T2) (j : Nat) (t : Int) : Bool := (d.take j).any fun x => decide (t < x.1)
theorem bfr_iff {d : List T2} {j : Nat} {t : Int} : bfr d j t = true ↔ ∃ i x, i < j ∧ d[i]? = some x ∧ t < x.1 := by
  unfold bfr
  rw [List.any_eq_true]
  constructor
  · rintro ⟨x, hx, h⟩
    obtain ⟨i, hi⟩ := List.getElem?_of_mem hx
    have hlt := (List.getElem?_eq_some_iff.1 hi).1
    rw [List.length_take] at hlt
    rw [List.getElem?_take_of_lt (by omega)] at hi
    exact ⟨i, x, by omega, hi, by simpa using h⟩
  · rintro ⟨i, x, hi, hx, h⟩
    exact ⟨x, List.mem_of_getElem? (i := i) (by rw [List.getElem?_take_of_lt hi]; exact hx), by simpa using h⟩
theorem bfr_not {d : List T2} {j : Nat} {t : Int} : bfr d j t = false ↔ ∀ i x, i < j → d[i]? = some x → x.1 ≤ t := by
  rw [← Bool.not_eq_true, bfr_iff]
  constructor
  · intro h i x hi hx
    apply Int.not_lt.1
    intro q
    exact h ⟨i, x, hi, hx, q⟩
  · rintro h ⟨i, x, hi, hx, q⟩
    have := h i x hi hx
    omega
theorem Turned.bz {f g : List Int} {d : List T2} (h : Turned f g d) (t : Int) : ∃ K, K ≤ d.length ∧ (∀ i x, d[i]? = some x → (x.1 ≤ t ↔ i < K)) ∧ (bz f g t = true ↔ 0 < ct (d.take K)) := by
  obtain ⟨K, h1, h2, h3⟩ := h.cut t
  refine ⟨K, h1, h2, ?_⟩
  rw [← h3]
  unfold Go.Proofs.Ytelgknecainlfaa.bz
  rw [decide_eq_true_eq]
  omega
theorem trn_ends {z : List (Int × Int)} (hz : ∀ p ∈ z, p.1 ≤ p.2) (T : Int) : (z.flatMap trn1).countP (fun x => !x.2 && decide (x.1 ≤ T)) ≤ (z.flatMap trn1).countP (fun x => x.2 && decide (x.1 < T)) := by
  induction z with
  | nil => exact Nat.le_refl _
  | cons p z ih =>
    have h1 := ih (fun q hq => hz q (List.mem_cons_of_mem _ hq))
    have h2 := hz p List.mem_cons_self
    obtain ⟨x, y⟩ := p
    simp only at h2
    rw [List.flatMap_cons, List.countP_append, List.countP_append]
    have key : (trn1 (x, y)).countP (fun x => !x.2 && decide (x.1 ≤ T)) ≤ (trn1 (x, y)).countP (fun x => x.2 && decide (x.1 < T)) := by
      unfold trn1
      by_cases hxy : x = y
      · simp [hxy]
      · simp only [hxy, if_false]
        by_cases h3 : y ≤ T
        · have h4 : x < T := by omega
          simp [h3, h4]
        · simp [List.countP_cons, h3]
    omega
theorem ct_trn0 (z : List (Int × Int)) : ct (z.flatMap trn1) = 0 := by
  induction z with
  | nil => rfl
  | cons p z ih =>
    unfold ct at *
    rw [List.flatMap_cons, List.countP_append, List.countP_append]
    have key : (trn1 p).countP (fun x => x.2) = (trn1 p).countP (fun x => !x.2) := by
      unfold trn1
      split <;> simp
    omega
theorem Turned.ct0 {f g : List Int} {d : List T2} (h : Turned f g d) : ct d = 0 := (ct_perm h.perm).trans (ct_trn0 _)
theorem Turned.nonneg {f g : List Int} {d : List T2} (h : Turned f g d) : ∀ j, 0 ≤ ct (d.take j) := by
  intro j
  induction j with
  | zero => exact Int.le_refl _
  | succ j ih =>
    rcases Nat.lt_or_ge j d.length with hj | hj
    · have hx := List.getElem?_eq_getElem hj
      rw [ct_snoc d hx]
      cases hb : d[j].2 with
      | true => simp; omega
      | false =>
        rw [← hb, ← ct_snoc d hx]
        generalize hT : d[j].1 = T at hx
        have hle : ∀ x ∈ d.take (j + 1), x.1 ≤ T := fun x hx' => by
          obtain ⟨i, hi⟩ := List.getElem?_of_mem hx'
          have hlt := (List.getElem?_eq_some_iff.1 hi).1
          rw [List.length_take] at hlt
          rw [List.getElem?_take_of_lt (by omega)] at hi
          by_cases e : i = j
          · subst e; rw [hx] at hi; injection hi with hi; rw [← hi, hT]; exact Int.le_refl _
          · have := pair_at (pair_time h.srt) (show i < j by omega) hi hx
            rw [hT] at this; exact this
        have hge : ∀ x ∈ d.drop (j + 1), T ≤ x.1 := fun x hx' => by
          obtain ⟨i, hi⟩ := List.getElem?_of_mem hx'
          rw [List.getElem?_drop] at hi
          have := pair_at (pair_time h.srt) (show j < j + 1 + i by omega) hx hi
          rw [hT] at this; exact this
        have h1 : (d.take (j + 1)).countP (fun x => !x.2) ≤ d.countP (fun x => !x.2 && decide (x.1 ≤ T)) := by
          have e : (d.take (j + 1)).countP (fun x => !x.2) = (d.take (j + 1)).countP (fun x => !x.2 && decide (x.1 ≤ T)) := List.countP_congr fun x hx => by simp [hle x hx]
          rw [e]
          exact (List.take_sublist _ _).countP_le
        have h2 : d.countP (fun x => x.2 && decide (x.1 < T)) ≤ (d.take (j + 1)).countP (fun x => x.2) := by
          have e : d.countP (fun x => x.2 && decide (x.1 < T)) = (d.take (j + 1) ++ d.drop (j + 1)).countP (fun x => x.2 && decide (x.1 < T)) := by rw [List.take_append_drop]
          rw [e, List.countP_append]
          have z : (d.drop (j + 1)).countP (fun x => x.2 && decide (x.1 < T)) = 0 := by
            rw [List.countP_eq_zero]
            intro x hx
            have := hge x hx
            simp; omega
          rw [z, Nat.add_zero]
          exact List.countP_mono_left fun x _ hx => by simp at hx; exact hx.1
        have hz : ∀ p ∈ f.zip g, p.1 ≤ p.2 := fun p hp => by
          have hf := h.fwd
          rw [List.any_eq_false] at hf
          have := hf p hp
          simp [backB] at this
          exact this
        have h3 := trn_ends hz T
        have e1 := h.perm.countP_eq (fun x => !x.2 && decide (x.1 ≤ T))
        have e2 := h.perm.countP_eq (fun x => x.2 && decide (x.1 < T))
        unfold trn at e1 e2
        unfold ct
        omega
    · rw [List.take_of_length_le (by omega), h.ct0]
      exact Int.le_refl _
end Go.Proofs.Ytelgknecainlfaa

/- WiPkPlain: texts for the statements of this seat: contracts of functions, walks, plain laws. Conditions: none. -/
import Derived.Test.YtelgknecainlfaaWiTurns3
import Derived.Test.YtelgknecainlfaaWiPeak
set_option linter.all false
/- Sorted turns: how many runs are under way at a time is how many have begun among the first turns, less how many have ended. -/
namespace Go.Proofs.Ytelgknecainlfaa
open Go.RowKit
open Wi (vld Srt chk)

/-- Beginnings less ends. -/
def ct (l : List T2) : Int := (l.countP (fun x => x.2) : Int) - l.countP (fun x => !x.2)
theorem ct_snoc (d : List T2) {j : Nat} {x : T2} (h : d[j]? = some x) : ct (d.take (j + 1)) = ct (d.take j) + if x.2 = true then 1 else -1 := by
  unfold ct
  rw [List.take_add_one, h, List.countP_append, List.countP_append]
  obtain ⟨t, b⟩ := x
  cases b <;> simp <;> omega
theorem ct_perm {l m : List T2} (h : l.Perm m) : ct l = ct m := by
  unfold ct
  rw [h.countP_eq, h.countP_eq]
def leT (t : Int) (x : T2) : Bool := decide (x.1 ≤ t)
theorem ct_trn {z : List (Int × Int)} (hz : ∀ p ∈ z, p.1 ≤ p.2) (t : Int) : (z.countP (runB t) : Int) = ct ((z.flatMap trn1).filter (leT t)) := by
  induction z with
  | nil => rfl
  | cons p z ih =>
    have h1 := ih (fun q hq => hz q (List.mem_cons_of_mem _ hq))
    have h2 := hz p List.mem_cons_self
    obtain ⟨x, y⟩ := p
    simp only at h2
    rw [List.countP_cons, List.flatMap_cons, List.filter_append]
    unfold ct at *
    rw [List.countP_append, List.countP_append]
    have key : ((if runB t (x, y) = true then 1 else 0 : Nat) : Int) = ((List.filter (leT t) (trn1 (x, y))).countP (fun x => x.2) : Int) - (List.filter (leT t) (trn1 (x, y))).countP (fun x => !x.2) := by
      unfold trn1 runB leT
      by_cases hxy : x = y
      · subst hxy
        simp
      · simp only [hxy, if_false]
        by_cases h3 : x ≤ t
        · by_cases h4 : t < y
          · have h5 : ¬ y ≤ t := by omega
            simp [h3, h4, h5]
          · have h5 : y ≤ t := by omega
            simp [h3, h4, h5]
        · have h5 : ¬ y ≤ t := by omega
          simp [h3, h5]
    omega
theorem atF_ct {f g : List Int} (hfg : (f.zip g).any backB = false) (t : Int) : (atF f g t : Int) = ct ((trn f g).filter (leT t)) := by
  unfold atF trn
  refine ct_trn (fun p hp => ?_) t
  rw [List.any_eq_false] at hfg
  have := hfg p hp
  simp [backB] at this
  exact this
/-- The first K turns are those up to t. -/
theorem sorted_cut {d : List T2} (h : d.Pairwise (fun x y => x.1 ≤ y.1)) (t : Int) : ∃ K, K ≤ d.length ∧ (∀ i x, d[i]? = some x → (x.1 ≤ t ↔ i < K)) ∧ d.filter (leT t) = d.take K := by
  induction d with
  | nil => exact ⟨0, Nat.le_refl _, fun i x h => by simp at h, rfl⟩
  | cons y d ih =>
    rw [List.pairwise_cons] at h
    obtain ⟨K, hK, h1, h2⟩ := ih h.2
    by_cases hy : y.1 ≤ t
    · refine ⟨K + 1, by simp; omega, fun i x hx => ?_, ?_⟩
      · cases i with
        | zero => simp at hx; subst hx; simp [hy]
        | succ i => rw [h1 i x (by simpa using hx)]; omega
      · rw [List.filter_cons, if_pos (by simp [leT, hy]), h2]
        rfl
    · refine ⟨0, Nat.zero_le _, fun i x hx => ?_, ?_⟩
      · have : y.1 ≤ x.1 := by
          cases i with
          | zero => simp at hx; subst hx; exact Int.le_refl _
          | succ i => exact h.1 x (List.mem_of_getElem? (by simpa using hx))
        constructor
        · intro h; omega
        · intro h; omega
      · rw [List.take_zero, List.filter_eq_nil_iff]
        intro x hx
        rcases List.mem_cons.1 hx with rfl | hx
        · simp [leT]; omega
        · have := h.1 x hx
          simp [leT]; omega
theorem pair_time {d : List T2} (h : d.Pairwise (fun x y => ltW y x = false)) : d.Pairwise (fun x y => x.1 ≤ y.1) := by
  refine h.imp ?_
  intro x y h
  simp [ltW] at h
  omega
theorem pair_at {α : Type} {R : α → α → Prop} {d : List α} (h : d.Pairwise R) {i j : Nat} {x y : α} (hij : i < j) (hx : d[i]? = some x) (hy : d[j]? = some y) : R x y := by
  obtain ⟨hi, rfl⟩ := List.getElem?_eq_some_iff.1 hx
  obtain ⟨hj, rfl⟩ := List.getElem?_eq_some_iff.1 hy
  exact List.pairwise_iff_getElem.1 h i j hi hj hij
/-- The turns of runs, sorted. -/
structure Turned (f g : List Int) (d : List T2) : Prop where
  perm : d.Perm (trn f g)
  srt : d.Pairwise (fun x y => ltW y x = false)
  fwd : (f.zip g).any backB = false
theorem Turned.cut {f g : List Int} {d : List T2} (h : Turned f g d) (t : Int) : ∃ K, K ≤ d.length ∧ (∀ i x, d[i]? = some x → (x.1 ≤ t ↔ i < K)) ∧ (atF f g t : Int) = ct (d.take K) := by
  obtain ⟨K, h1, h2, h3⟩ := sorted_cut (pair_time h.srt) t
  refine ⟨K, h1, h2, ?_⟩
  rw [atF_ct h.fwd, ← ct_perm (h.perm.filter _), h3]
theorem trn_from {f g : List Int} {t : Int} (h : (t, true) ∈ trn f g) : t ∈ f := by
  unfold trn at h
  obtain ⟨p, hp, h⟩ := List.mem_flatMap.1 h
  unfold trn1 at h
  split at h
  · cases h
  · simp at h
    subst h
    exact (List.of_mem_zip hp).1
theorem trn_times {f g : List Int} {x : T2} (h : x ∈ trn f g) (hv : (f.all vld && g.all vld) = true) : 0 ≤ x.1 ∧ x.1 ≤ 253402300799 := by
  simp only [Bool.and_eq_true, List.all_eq_true] at hv
  unfold trn at h
  obtain ⟨p, hp, h⟩ := List.mem_flatMap.1 h
  have h1 := Wi.vld_iff.1 (hv.1 _ (List.of_mem_zip hp).1)
  have h2 := Wi.vld_iff.1 (hv.2 _ (List.of_mem_zip hp).2)
  unfold trn1 at h
  split at h
  · cases h
  · simp at h
    rcases h with rfl | rfl
    · exact h1
    · exact h2
/-- Peak's loop, behind j turns. -/
structure PkT (d : List T2) (j b : Nat) (w : Int) : Prop where
  top : ∀ i, i ≤ j → ct (d.take i) ≤ b
  is : 0 < b → ∃ i, i < j ∧ d[i]? = some (w, true) ∧ ct (d.take (i + 1)) = b ∧ ∀ k, k ≤ i → ct (d.take k) < b
  no : b = 0 → w = 0
theorem PkT.start (d : List T2) : PkT d 0 0 0 := ⟨fun i h => by rw [Nat.le_zero.1 h]; exact Int.le_refl _, fun h => absurd h (by omega), fun _ => rfl⟩
theorem PkT.pass {d : List T2} {j b : Nat} {w : Int} (h : PkT d j b w) (hb : ct (d.take (j + 1)) ≤ b) : PkT d (j + 1) b w :=
  ⟨fun i hi => by
    by_cases e : i = j + 1
    · subst e; exact hb
    · exact h.top i (by omega), fun h0 => by
    obtain ⟨i, h1, h2⟩ := h.is h0
    exact ⟨i, by omega, h2⟩, h.no⟩
theorem PkT.take {d : List T2} {j b c : Nat} {w x : Int} (h : PkT d j b w) (hx : d[j]? = some (x, true)) (hc : ct (d.take (j + 1)) = c) (hb : b < c) : PkT d (j + 1) c x :=
  ⟨fun i hi => by
    by_cases e : i = j + 1
    · subst e; omega
    · have := h.top i (by omega); omega, fun h0 => ⟨j, by omega, hx, hc, fun k hk => by have := h.top k hk; omega⟩, fun h0 => by omega⟩
theorem PkT.done {f g : List Int} {d : List T2} {j b : Nat} {w : Int} (h : PkT d j b w) (T : Turned f g d) (hj : d.length ≤ j) : Pk f g b w := by
  have h1 : ∀ t, atF f g t ≤ b := fun t => by
    obtain ⟨K, a1, a2, a3⟩ := T.cut t
    have := h.top K (by omega)
    omega
  have h2 : 0 < b → w ∈ f ∧ atF f g w = b ∧ ∀ x, atF f g x = b → w ≤ x := fun h0 => by
    obtain ⟨i, b1, b2, b3, b4⟩ := h.is h0
    refine ⟨trn_from (T.perm.mem_iff.1 (List.mem_of_getElem? b2)), ?_, fun x hx => ?_⟩
    · obtain ⟨K, a1, a2, a3⟩ := T.cut w
      have hiK := (a2 i _ b2).1 (Int.le_refl _)
      have key : ∀ m, i + 1 + m ≤ K → (b : Int) ≤ ct (d.take (i + 1 + m)) := by
        intro m
        induction m with
        | zero => intro _; exact Int.le_of_eq b3.symm
        | succ m ih =>
          intro hm
          have hk : i + 1 + m < d.length := by omega
          have e := List.getElem?_eq_getElem hk
          have hle := (a2 _ _ e).2 (by omega)
          have hlt := pair_at T.srt (show i < i + 1 + m by omega) b2 e
          rw [show i + 1 + (m + 1) = (i + 1 + m) + 1 by omega, ct_snoc d e]
          have := ih (by omega)
          generalize d[i + 1 + m] = q at hle hlt
          obtain ⟨q1, q2⟩ := q
          cases q2 with
          | true => simp; omega
          | false =>
            simp [ltW] at hlt hle
            omega
      have := key (K - (i + 1)) (by omega)
      rw [show i + 1 + (K - (i + 1)) = K by omega] at this
      have := h1 w
      omega
    · obtain ⟨K, a1, a2, a3⟩ := T.cut x
      have hK : i < K := by
        rcases Nat.lt_or_ge i K with q | q
        · exact q
        · have := b4 K q; omega
      exact (a2 i _ b2).2 hK
  exact ⟨fun x _ => h1 x, fun h0 x _ hx => (h2 h0).2.2 x hx, fun h0 => ⟨(h2 h0).1, (h2 h0).2.1⟩, h.no⟩
end Go.Proofs.Ytelgknecainlfaa

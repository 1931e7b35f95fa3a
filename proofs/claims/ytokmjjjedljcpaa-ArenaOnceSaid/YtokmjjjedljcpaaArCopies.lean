/- ArCopies: texts for the statements of this seat: contracts of functions, walks, plain laws. Conditions: none. -/
import Derived.Test.YtokmjjjedljcpaaArCopy
import Derived.Test.YtokmjjjedljcpaaArFun
import Derived.Test.YtokmjjjedljcpaaArSlices
namespace Go.Proofs.Ytokmjjjedljcpaa
open Go.RowKit

theorem countP_first {p : Nat → Bool} {N k : Nat} (hk : k ≤ N) (h1 : ∀ x, x < k → p x = true) (h2 : ∀ x, k ≤ x → p x = false) : (List.range N).countP p = k := by
  obtain ⟨d, rfl⟩ := Nat.exists_eq_add_of_le hk
  rw [List.range_add, List.countP_append]
  have e1 : (List.range k).countP p = (List.range k).length := List.countP_eq_length.2 fun x hx => h1 x (List.mem_range.1 hx)
  have e2 : ((List.range d).map (k + ·)).countP p = 0 := List.countP_eq_zero.2 fun x hx => by
    obtain ⟨y, -, rfl⟩ := List.mem_map.1 hx
    simp [h2 (k + y) (by omega)]
  rw [e1, e2, List.length_range]; rfl
theorem filter_first {p : Nat → Bool} {N k : Nat} (hk : k ≤ N) (h1 : ∀ x, x < k → p x = true) (h2 : ∀ x, k ≤ x → p x = false) : (List.range N).filter p = List.range k := by
  obtain ⟨d, rfl⟩ := Nat.exists_eq_add_of_le hk
  rw [List.range_add, List.filter_append]
  have e1 : (List.range k).filter p = List.range k := List.filter_eq_self.2 fun x hx => h1 x (List.mem_range.1 hx)
  have e2 : ((List.range d).map (k + ·)).filter p = [] := List.filter_eq_nil_iff.2 fun x hx => by
    obtain ⟨y, -, rfl⟩ := List.mem_map.1 hx
    simp [h2 (k + y) (by omega)]
  rw [e1, e2, List.append_nil]

theorem upto_of (N : Nat) (f : Nat → U) (fl : List Nat) : (AA.of N f fl).upto = (List.range N).filter fun j => (f j).taken := by
  unfold AA.upto
  have : (AA.of N f fl).sl.length = N := by simp [AA.of]
  rw [this]
  apply List.filter_congr
  intro j hj
  rw [AA.of_get, if_pos (List.mem_range.1 hj)]

/-- The handles of the first k slots, each in its first use. -/
def hn (k : Nat) : List Int := (List.range k).map fun (i : Nat) => 4096 + (i : Int)
theorem hn_length (k : Nat) : (hn k).length = k := by simp [hn]
theorem hn_snoc (k : Nat) : hn (k + 1) = hn k ++ [4096 + (k : Int)] := by simp [hn, List.range_succ]
theorem hn_get {k i : Nat} (h : i < k) : (hn k)[i]? = some (4096 + (i : Int)) := by simp [hn, h]

theorem live_first {N k : Nat} {f : Nat → U} {fl : List Nat} (hk : k ≤ N) (h1 : ∀ x, x < k → (f x).taken = true ∧ (f x).use = 1) (h2 : ∀ x, k ≤ x → (f x).taken = false) : (AA.of N f fl).live = hn k := by
  unfold AA.live
  rw [upto_of, filter_first hk (fun x hx => (h1 x hx).1) h2]
  unfold hn
  apply List.map_congr_left
  intro x hx
  have hx := List.mem_range.1 hx
  unfold AA.hnd
  rw [AA.of_get, if_pos (by omega)]
  simp only
  rw [(h1 x hx).2]; omega

/-- The first k slots hold their numbers. -/
def C1 (N k : Nat) (a : AA) : Prop := ∃ f, a = AA.of N f [] ∧ (∀ x, x < k → f x = { use := 1, taken := true, v := x }) ∧ ∀ x, k ≤ x → (f x).use = 0 ∧ (f x).taken = false
theorem C1_start (N : Nat) : C1 N 0 (AA.empty N) := ⟨_, AA.of_empty N, fun x h => by omega, fun x _ => ⟨rfl, rfl⟩⟩
theorem C1_put {N k : Nat} {a : AA} (h : C1 N k a) (hk : k < N) : ∃ a', a.put k = (a', 4096 + (k : Int), 0) ∧ C1 N (k + 1) a' := by
  obtain ⟨f, rfl, h1, h2⟩ := h
  refine ⟨_, AA.put_new k hk (fun x hx => by rw [h1 x hx]; simp) (h2 k (Nat.le_refl _)).1, _, rfl, fun x hx => ?_, fun x hx => ?_⟩
  · by_cases e : x = k
    · subst e; rw [updU_at]
    · rw [updU_ne _ _ e]; exact h1 x (by omega)
  · rw [updU_ne _ _ (by omega)]; exact h2 x (by omega)
theorem C1_facts {N k : Nat} {a : AA} (h : C1 N k a) (hk : k ≤ N) : a.live = hn k ∧ a.len = k ∧ a.room = N - k := by
  obtain ⟨f, rfl, h1, h2⟩ := h
  refine ⟨live_first hk (fun x hx => by rw [h1 x hx]; exact ⟨rfl, rfl⟩) (fun x hx => (h2 x hx).2), ?_, ?_⟩
  · rw [AA.len_of]; exact countP_first hk (fun x hx => by rw [h1 x hx]) (fun x hx => (h2 x hx).2)
  · rw [AA.room_of]
    have e : (List.range N).countP (fun x => !(f x).taken && (f x).use != 2147483648) + (List.range N).countP (fun x => (f x).taken) = N := by
      have q : (List.range N).countP (fun x => !(f x).taken && (f x).use != 2147483648) = (List.range N).countP (fun x => ! (f x).taken) := by
        apply List.countP_congr
        intro x _
        by_cases hx : x < k
        · rw [h1 x hx]; simp
        · have := h2 x (by omega); simp [this.1, this.2]
      rw [q]
      have := List.length_eq_countP_add_countP (fun x => (f x).taken) (l := List.range N)
      simp only [List.length_range, decide_not] at this
      rw [Nat.add_comm]
      refine Eq.trans ?_ this.symm
      congr 1
      apply List.countP_congr
      intro x _; cases (f x).taken <;> simp
    have e2 := countP_first (p := fun x => (f x).taken) hk (fun x hx => by rw [h1 x hx]) (fun x hx => (h2 x hx).2)
    omega
theorem C1_get {N k j : Nat} {a : AA} (h : C1 N k a) (hN : N ≤ 4096) (hk : k ≤ N) (hj : j < k) : a.get (4096 + (j : Int)) = ((j : Int), true) := by
  obtain ⟨f, rfl, h1, h2⟩ := h
  rw [AA.get_of 1 j (by omega) hN (by omega) (by omega), h1 j hj, if_pos ⟨rfl, rfl⟩]
/-- What becomes of the copy. -/
theorem C1_copy {N k j : Nat} {a : AA} (h : C1 N k a) (hN : N ≤ 4096) (hk : k < N) (hj : j < k) :
    ∃ c1 c2 c3, a.free (4096 + (j : Int)) = (c1, 0) ∧ c1.len = k - 1 ∧ c1.put 77 = (c2, 4096 + (j : Int) + 4096, 0) ∧ c2.get (4096 + (j : Int) + 4096) = (77, true) ∧
      c2.put 79 = (c3, 4096 + (k : Int), 0) ∧ c3.get (4096 + (k : Int)) = (79, true) := by
  obtain ⟨f, rfl, h1, h2⟩ := h
  have F := AA.free_of (f := f) (fl := []) (N := N) (h := 4096 + (j : Int)) 1 j (by omega) hN (by omega) (by omega) (by omega)
  rw [h1 j hj, if_pos ⟨rfl, rfl⟩] at F
  have P1 := AA.put_pop (N := N) (f := updU f j { use := 1, taken := false, v := j }) (k := j) (r := []) 77 (by omega)
  rw [updU_at] at P1
  have P2 := AA.put_new (N := N) (f := updU (updU f j { use := 1, taken := false, v := j }) j { use := 1 + 1, taken := true, v := 77 }) (k := k) 79 hk (fun x hx => by
    by_cases e : x = j
    · rw [e, updU_at]; simp
    · rw [updU_ne _ _ e, updU_ne _ _ e, h1 x hx]; simp) (by rw [updU_ne _ _ (by omega), updU_ne _ _ (by omega)]; exact (h2 k (Nat.le_refl _)).1)
  rw [show (4096 : Int) * (({ use := 1, taken := false, v := (j : Int) } : U).use + 1) + (j : Int) = 4096 + (j : Int) + 4096 from by simp only; omega] at P1
  refine ⟨_, _, _, F, ?_, P1, ?_, P2, ?_⟩
  · rw [AA.len_of]
    have e := countP_first (p := fun x => (f x).taken) (N := N) (k := k) (by omega) (fun x hx => by rw [h1 x hx]) (fun x hx => (h2 x hx).2)
    have s := AA.of_set N f [] j { use := 1, taken := false, v := (j : Int) } (by omega)
    have g : (AA.of N f []).sl[j]? = some (f j) := by rw [AA.of_get, if_pos (by omega)]
    have l := (List.getElem?_eq_some_iff.1 g)
    have c := List.countP_set (p := fun u : U => u.taken) (a := { use := 1, taken := false, v := (j : Int) }) l.1
    rw [s, l.2, h1 j hj] at c
    simp only [AA.of, List.countP_map] at c
    have e1 : ((fun u : U => u.taken) ∘ updU f j { use := 1, taken := false, v := (j : Int) }) = fun x => (updU f j { use := 1, taken := false, v := (j : Int) } x).taken := rfl
    have e2 : ((fun u : U => u.taken) ∘ f) = fun x => (f x).taken := rfl
    rw [e1, e2, e] at c
    simpa using c
  · rw [AA.get_of (h := 4096 + (j : Int) + 4096) 2 j (by omega) hN (by omega) (by omega), updU_at, if_pos ⟨rfl, rfl⟩]
  · rw [AA.get_of (h := 4096 + (k : Int)) 1 k (by omega) hN (by omega) (by omega), updU_at, if_pos ⟨rfl, rfl⟩]
theorem C1_two {N k : Nat} {a : AA} (h : C1 N k a) (hk : k < N) : ∃ a', a.put 78 = (a', 4096 + (k : Int), 0) ∧ a'.live = hn (k + 1) := by
  obtain ⟨f, rfl, h1, h2⟩ := h
  refine ⟨_, AA.put_new 78 hk (fun x hx => by rw [h1 x hx]; simp) (h2 k (Nat.le_refl _)).1, live_first (by omega) (fun x hx => ?_) (fun x hx => ?_)⟩
  · by_cases e : x = k
    · subst e; rw [updU_at]; exact ⟨rfl, rfl⟩
    · rw [updU_ne _ _ e, h1 x (by omega)]; exact ⟨rfl, rfl⟩
  · rw [updU_ne _ _ (by omega)]; exact (h2 x (by omega)).2
end Go.Proofs.Ytokmjjjedljcpaa

/- ArStack: texts for the statements of this seat: contracts of functions, walks, plain laws. Conditions: none. -/
import Derived.Test.YtokmjjjedljcpaaRows
import Derived.Test.YtokmjjjedljcpaaArA
import Derived.Test.YtokmjjjedljcpaaArBase
import Derived.Test.YtokmjjjedljcpaaArFun
namespace Go.Proofs.Ytokmjjjedljcpaa
open Go.RowKit

theorem Try.info27 : (Try.prog.info? 27).map (fun i => (i.zero, i.size, i.bytes)) = some (some (.int .i64 0), 1, 8) := by kernel_rfl
theorem el26 : ElemOk Try.prog 26 27 1 8 := .mk' Try.underlying26 Try.info27 rfl (by decide)

def hs (n : Nat) : List Value := (List.range n).map fun (i : Nat) => .int .i64 (4096 + i)
theorem hs_len (n : Nat) : (hs n).length = n := by simp [hs]
theorem hs_snoc (n : Nat) : hs (n + 1) = hs n ++ [.int .i64 (4096 + n)] := by simp [hs, List.range_succ]
theorem hs_get (n i : Nat) (h : i < n) : (hs n)[i]? = some (.int .i64 (4096 + i)) := by simp [hs, h]

/-- The order in which slots are freed. -/
def jj (n : Nat) (t : Nat) (i : Nat) : Nat := (i + t) % n

/-- After k numbers were put in. -/
def S1 (N k : Nat) (a : AA) : Prop := ∃ f, a = AA.of N f [] ∧ (∀ x, x < k → (f x).use = 1 ∧ (f x).taken = true) ∧ ∀ x, k ≤ x → (f x).use = 0
/-- After i slots were freed. -/
def S2 (n t i : Nat) (a : AA) : Prop := ∃ f, a = AA.of (n + 3) f ((List.range i).map (jj n t)).reverse ∧ (∀ x, x < n → (f x).use = 1) ∧ (∀ x, x < n → ((f x).taken = true ↔ ∀ i', i' < i → x ≠ jj n t i')) ∧ ∀ x, n ≤ x → (f x).use = 0
/-- When r slots are free still. -/
def S3 (n t r : Nat) (a : AA) : Prop := ∃ f, a = AA.of (n + 3) f ((List.range r).map (jj n t)).reverse ∧ (∀ x, x < n → (f x).use ≠ 0) ∧ (∀ i', i' < r → (f (jj n t i')).use = 1) ∧
  (∀ x, x < n → ((f x).taken = true ↔ ∀ i', i' < r → x ≠ jj n t i')) ∧ ∀ x, n ≤ x → (f x).use = 0
/-- When the first m slots were used. -/
def S4 (N m : Nat) (a : AA) : Prop := ∃ f, a = AA.of N f [] ∧ (∀ x, x < m → (f x).use ≠ 0 ∧ (f x).taken = true) ∧ ∀ x, m ≤ x → (f x).use = 0

theorem S1_start (N : Nat) : S1 N 0 (AA.empty N) := ⟨_, AA.of_empty N, fun x h => by omega, fun x _ => rfl⟩
theorem S1_put {N k : Nat} {a : AA} (h : S1 N k a) (hk : k < N) (v : Int) : ∃ a', a.put v = (a', 4096 + (k : Int), 0) ∧ S1 N (k + 1) a' := by
  obtain ⟨f, rfl, h1, h2⟩ := h
  refine ⟨_, AA.put_new v hk (fun x hx => by rw [(h1 x hx).1]; decide) (h2 k (Nat.le_refl _)), _, rfl, fun x hx => ?_, fun x hx => ?_⟩
  · by_cases e : x = k
    · subst e; rw [updU_at]; exact ⟨rfl, rfl⟩
    · rw [updU_ne _ _ e]; exact h1 x (by omega)
  · rw [updU_ne _ _ (by omega)]; exact h2 x (by omega)
theorem S2_start {n t : Nat} {a : AA} (h : S1 (n + 3) n a) : S2 n t 0 a := by
  obtain ⟨f, rfl, h1, h2⟩ := h
  exact ⟨f, rfl, fun x hx => (h1 x hx).1, fun x hx => ⟨fun _ i' hi => by omega, fun _ => (h1 x hx).2⟩, h2⟩
theorem jj_lt {n t i : Nat} (hn : 0 < n) : jj n t i < n := Nat.mod_lt _ hn
theorem jj_inj {n t i j : Nat} (hi : i < n) (hj : j < n) (h : jj n t i = jj n t j) : i = j := by
  unfold jj at h
  have e1 := Nat.div_add_mod (i + t) n
  have e2 := Nat.div_add_mod (j + t) n
  rw [h] at e1
  rcases Nat.lt_trichotomy ((i + t) / n) ((j + t) / n) with q | q | q
  · have := Nat.mul_le_mul_left n q; rw [Nat.mul_succ] at this; omega
  · rw [q] at e1; omega
  · have := Nat.mul_le_mul_left n q; rw [Nat.mul_succ] at this; omega
theorem S2_free {n t i : Nat} {a : AA} (h : S2 n t i a) (hi : i < n) (hn : n ≤ 100) : ∃ a', a.free (4096 + ((jj n t i : Nat) : Int)) = (a', 0) ∧ S2 n t (i + 1) a' := by
  obtain ⟨f, rfl, h1, h2, h3⟩ := h
  have hl := jj_lt (n := n) (t := t) (i := i) (by omega)
  have ht : (f (jj n t i)).taken = true := (h2 _ hl).2 fun i' hi' e => by have := jj_inj hi (by omega) e; omega
  have F := AA.free_of (f := f) (fl := ((List.range i).map (jj n t)).reverse) (N := n + 3) (h := 4096 + ((jj n t i : Nat) : Int)) 1 (jj n t i) (by omega) (by omega) (by omega) (by omega) (by omega)
  rw [if_pos ⟨ht, h1 _ hl⟩] at F
  refine ⟨_, F, updU f (jj n t i) { f (jj n t i) with taken := false }, by simp [List.range_succ], fun x hx => ?_, fun x hx => ?_, fun x hx => ?_⟩
  · by_cases e : x = jj n t i
    · rw [e, updU_at]; exact h1 _ hl
    · rw [updU_ne _ _ e]; exact h1 x hx
  · by_cases e : x = jj n t i
    · rw [e, updU_at]
      simp only [Bool.false_eq_true, false_iff]
      exact fun q => q i (by omega) rfl
    · rw [updU_ne _ _ e, h2 x hx]
      exact ⟨fun q i' hi' => by
        by_cases g : i' = i
        · rw [g]; exact e
        · exact q i' (by omega), fun q i' hi' => q i' (by omega)⟩
  · rw [updU_ne _ _ (by omega)]; exact h3 x hx
theorem S3_start {n t k : Nat} {a : AA} (h : S2 n t k a) (hn : 0 < n) : S3 n t k a := by
  obtain ⟨f, rfl, h1, h2, h3⟩ := h
  exact ⟨f, rfl, fun x hx => by rw [h1 x hx]; decide, fun i' hi => h1 _ (jj_lt hn), h2, h3⟩
theorem S3_put {n t r : Nat} {a : AA} (h : S3 n t (r + 1) a) (hr : r < n) (v : Int) : ∃ a', a.put v = (a', 4096 + ((jj n t r : Nat) : Int) + 4096, 0) ∧ S3 n t r a' := by
  obtain ⟨f, rfl, h1, h2, h3, h4⟩ := h
  have hl := jj_lt (n := n) (t := t) (i := r) (by omega)
  have e : ((List.range (r + 1)).map (jj n t)).reverse = jj n t r :: ((List.range r).map (jj n t)).reverse := by simp [List.range_succ]
  have F := AA.put_pop (N := n + 3) (f := f) (k := jj n t r) (r := ((List.range r).map (jj n t)).reverse) v (by omega)
  rw [e, F, h2 r (by omega)]
  refine ⟨_, by congr 2; omega, _, rfl, fun x hx => ?_, fun i' hi => ?_, fun x hx => ?_, fun x hx => ?_⟩
  · by_cases g : x = jj n t r
    · rw [g, updU_at]; simp
    · rw [updU_ne _ _ g]; exact h1 x hx
  · have g : jj n t i' ≠ jj n t r := fun q => by have := jj_inj (by omega) hr q; omega
    rw [updU_ne _ _ g]; exact h2 i' (by omega)
  · by_cases g : x = jj n t r
    · rw [g, updU_at]
      simp only [true_iff]
      intro i' hi' q
      have := jj_inj hr (by omega) q; omega
    · rw [updU_ne _ _ g, h3 x hx]
      exact ⟨fun q i' hi' => q i' (by omega), fun q i' hi' => by
        by_cases w : i' = r
        · rw [w]; exact g
        · exact q i' (by omega)⟩
  · rw [updU_ne _ _ (by omega)]; exact h4 x hx
theorem S4_start {n t : Nat} {a : AA} (h : S3 n t 0 a) : S4 (n + 3) n a := by
  obtain ⟨f, rfl, h1, h2, h3, h4⟩ := h
  exact ⟨f, rfl, fun x hx => ⟨h1 x hx, (h3 x hx).2 fun i' hi => by omega⟩, h4⟩
theorem S4_put {N m : Nat} {a : AA} (h : S4 N m a) (hm : m < N) (v : Int) : ∃ a', a.put v = (a', 4096 + (m : Int), 0) ∧ S4 N (m + 1) a' := by
  obtain ⟨f, rfl, h1, h2⟩ := h
  refine ⟨_, AA.put_new v hm (fun x hx => (h1 x hx).1) (h2 m (Nat.le_refl _)), _, rfl, fun x hx => ?_, fun x hx => ?_⟩
  · by_cases e : x = m
    · subst e; rw [updU_at]; exact ⟨by simp, rfl⟩
    · rw [updU_ne _ _ e]; exact h1 x (by omega)
  · rw [updU_ne _ _ (by omega)]; exact h2 x (by omega)
theorem S4_end {N : Nat} {a : AA} (h : S4 N N a) : a.put 0 = (a, 0, 4) ∧ a.len = N ∧ a.room = 0 := by
  obtain ⟨f, rfl, h1, h2⟩ := h
  exact ⟨AA.put_full 0 fun x hx => (h1 x hx).1, AA.len_all fun x hx => (h1 x hx).2, AA.room_none fun x hx => (h1 x hx).2⟩
end Go.Proofs.Ytokmjjjedljcpaa

/- GeRows: texts for the statements of this seat: contracts of functions, walks, plain laws. Conditions: none. -/
import Derived.Lib.Hide
import Derived.Test.YtokmjjjedljcpaaArBase
import Derived.Test.YtokmjjjedljcpaaGeRow
import Derived.Test.YtokmjjjedljcpaaGeAppN
set_option linter.all false
/- Slices of structs of n cells each, whatever they are. -/
namespace Go.Proofs.Ytokmjjjedljcpaa
open Go.RowKit
variable {α : Type} {f : α → List Value} {n : Nat}

/-- The cells of a list. -/
def cellsL (f : α → List Value) (l : List α) : List Value := l.flatMap f
theorem cellsL_cons (x : α) (l : List α) : cellsL f (x :: l) = f x ++ cellsL f l := rfl
theorem cellsL_append (l m : List α) : cellsL f (l ++ m) = cellsL f l ++ cellsL f m := by simp [cellsL]
theorem cellsL_one (x : α) : cellsL f [x] = f x := by simp [cellsL]
theorem cellsL_length (hf : ∀ x, (f x).length = n) (l : List α) : (cellsL f l).length = l.length * n := by
  induction l with
  | nil => simp [cellsL]
  | cons x l ih => rw [cellsL_cons, List.length_append, ih, hf, List.length_cons, Nat.succ_mul]; omega
theorem cellsL_get (hf : ∀ x, (f x).length = n) {l : List α} {j i : Nat} {x : α} (h : l[j]? = some x) (hi : i < n) : (cellsL f l)[j * n + i]? = (f x)[i]? := by
  induction l generalizing j with
  | nil => simp at h
  | cons y l ih =>
    rw [cellsL_cons]
    cases j with
    | zero =>
      simp at h; subst h
      rw [Nat.zero_mul, Nat.zero_add, List.getElem?_append_left (by rw [hf]; exact hi)]
    | succ j =>
      simp at h
      rw [Nat.succ_mul, List.getElem?_append_right (by rw [hf]; omega), hf]
      have e : j * n + n + i - n = j * n + i := by omega
      rw [e]
      exact ih h
theorem cellsL_all (hf : ∀ x, ∀ u ∈ f x, u.oneCell' = true) (l : List α) : ∀ u ∈ cellsL f l, u.oneCell' = true := by
  intro u hu
  obtain ⟨x, -, hu⟩ := List.mem_flatMap.1 hu
  exact hf x u hu
/-- A place inside one of the structs. -/
theorem cellsL_inv (hf : ∀ x, (f x).length = n) {l : List α} {j : Nat} {u : Value} (h : (cellsL f l)[j]? = some u) : ∃ x, l[j / n]? = some x ∧ (f x)[j % n]? = some u := by
  have hj := (List.getElem?_eq_some_iff.1 h).1
  rw [cellsL_length hf] at hj
  have hn : 0 < n := by
    rcases Nat.eq_zero_or_pos n with h0 | h0
    · subst h0; simp at hj
    · exact h0
  have hq : j / n < l.length := Nat.div_lt_of_lt_mul (by rw [Nat.mul_comm]; exact hj)
  have hx : l[j / n]? = some l[j / n] := List.getElem?_eq_getElem hq
  refine ⟨_, hx, ?_⟩
  rw [← cellsL_get hf hx (Nat.mod_lt _ hn), Nat.mul_comm, Nat.div_add_mod, h]
/-- The structs xs lie in block b from off on. -/
def RowsAt (f : α → List Value) (n : Nat) (w : World) (b off : Nat) (xs : List α) : Prop := ∀ j x, xs[j]? = some x → ∀ i u, (f x)[i]? = some u → w.cell? ⟨b, off + j * n + i, none⟩ = some u
/-- The slice v reads as the structs xs. -/
def Rows (f : α → List Value) (n : Nat) (w : World) (v : Value) (xs : List α) : Prop :=
  (∃ a cap, v = .slice a 0 cap ∧ xs = []) ∨ ∃ b off cap, v = .slice (some ⟨b, off, none⟩) xs.length cap ∧ xs.length ≤ cap ∧ b < w.heap.size ∧ RowsAt f n w b off xs
theorem Rows.len {w : World} {v : Value} {xs : List α} (h : Rows f n w v xs) : ∃ a cap, v = .slice a xs.length cap := by
  rcases h with ⟨a, cap, rfl, rfl⟩ | ⟨b, off, cap, rfl, -⟩
  · exact ⟨a, cap, rfl⟩
  · exact ⟨_, cap, rfl⟩
theorem Rows.pos {w : World} {v : Value} {xs : List α} (h : Rows f n w v xs) (hp : 0 < xs.length) : ∃ b off cap, v = .slice (some ⟨b, off, none⟩) xs.length cap ∧ xs.length ≤ cap ∧ b < w.heap.size ∧ RowsAt f n w b off xs := by
  rcases h with ⟨a, cap, rfl, rfl⟩ | h
  · simp at hp
  · exact h
theorem RowsAt.kept {S : Nat → Prop} {w w' : World} {b off : Nat} {xs : List α} (h : RowsAt f n w b off xs) (hb : b < w.heap.size) (K : Kept S w w') (hS : ¬ S b) : RowsAt f n w' b off xs := fun j x hx i u hu =>
  (K.cell (a := ⟨b, off + j * n + i, none⟩) hb hS).trans (h j x hx i u hu)
theorem Rows.kept {S : Nat → Prop} {w w' : World} {v : Value} {xs : List α} (h : Rows f n w v xs) (K : Kept S w w') (hS : ∀ b, v.ownBlock = some b → 0 < xs.length → ¬ S b) : Rows f n w' v xs := by
  rcases h with h | ⟨b, off, cap, rfl, hcap, hb, hc⟩
  · exact .inl h
  · cases xs with
    | nil => exact .inl ⟨_, cap, rfl, rfl⟩
    | cons x xs => exact .inr ⟨b, off, cap, rfl, hcap, Nat.lt_of_lt_of_le hb K.size, hc.kept hb K (hS b rfl (by simp))⟩
theorem Rows.same {w w' : World} {v : Value} {xs : List α} (h : Rows f n w v xs) (K : Kept (fun _ => False) w w') : Rows f n w' v xs := h.kept K (fun _ _ _ h => h)
theorem Rows.block {w : World} {v : Value} {xs : List α} (h : Rows f n w v xs) {b : Nat} (hb : v.ownBlock = some b) (hx : 0 < xs.length) : b < w.heap.size := by
  obtain ⟨b', off, cap, rfl, _, hb', -⟩ := h.pos hx
  simp [Value.ownBlock] at hb
  omega
theorem Rows.of_own {w : World} {base e : Nat} {v : Value} {xs : List α} (hf : ∀ x, (f x).length = n) (h : w.ownsRow base e n v xs.length (cellsL f xs)) : Rows f n w v xs := by
  rcases h.2 with ⟨rfl, h0⟩ | ⟨g, cap, cur, rfl, hg, hh, hcap, -⟩
  · exact .inl ⟨none, 0, rfl, List.eq_nil_of_length_eq_zero h0⟩
  · refine .inr ⟨g, 0, cap, rfl, hcap, (Array.getElem?_eq_some_iff.1 hh).1, fun j x hx i u hu => ?_⟩
    have hj := (List.getElem?_eq_some_iff.1 hx).1
    have hi : i < n := by have := (List.getElem?_eq_some_iff.1 hu).1; rw [hf] at this; exact this
    have hjn : j * n + i < xs.length * n := by
      have : (j + 1) * n ≤ xs.length * n := Nat.mul_le_mul_right n hj
      rw [Nat.succ_mul] at this
      omega
    rw [Nat.zero_add, h.cellAt _ (by exact hjn), cellsL_get hf hx hi, hu]
theorem Rows.nil (f : α → List Value) (n : Nat) (w : World) : Rows f n w (.slice none 0 0) [] := .inl ⟨none, 0, rfl, rfl⟩
/-- The first k. -/
theorem Rows.take {w : World} {p : Option Addr} {m c : Nat} {xs : List α} (h : Rows f n w (.slice p m c) xs) {k : Nat} (hk : k ≤ xs.length) : Rows f n w (.slice p k c) (xs.take k) := by
  rcases Nat.eq_zero_or_pos k with h0 | h0
  · subst h0; exact .inl ⟨p, c, rfl, rfl⟩
  · obtain ⟨b, off, cap, hv, hcap, hb, hc⟩ := h.pos (by omega)
    injection hv with e1 e2 e3
    subst e1 e3
    have hl : (xs.take k).length = k := by rw [List.length_take]; omega
    refine .inr ⟨b, off, c, by rw [hl], by omega, hb, fun j x hx => ?_⟩
    have hj : j < k := by have := (List.getElem?_eq_some_iff.1 hx).1; omega
    rw [List.getElem?_take_of_lt hj] at hx
    exact hc j x hx
/-- All but the first k. -/
theorem Rows.drop {w : World} {b off m c : Nat} {xs : List α} (h : Rows f n w (.slice (some ⟨b, off, none⟩) m c) xs) {k : Nat} (hk : k ≤ xs.length) : Rows f n w (.slice (some ⟨b, off + k * n, none⟩) (m - k) (c - k)) (xs.drop k) := by
  obtain ⟨a, cap, hv⟩ := h.len
  injection hv with _ e2 _
  subst e2
  rcases Nat.eq_zero_or_pos (xs.length - k) with h0 | h0
  · exact .inl ⟨_, c - k, by rw [h0], List.eq_nil_of_length_eq_zero (by rw [List.length_drop]; exact h0)⟩
  · obtain ⟨b', off', cap, hv, hcap, hb, hc⟩ := h.pos (by omega)
    injection hv with e1 e2 e3
    injection e1 with e1
    injection e1 with e1 e1'
    subst e1 e1' e3
    refine .inr ⟨b, off + k * n, c - k, by rw [List.length_drop], by rw [List.length_drop]; omega, hb, fun j x hx i u hu => ?_⟩
    rw [List.getElem?_drop] at hx
    have := hc _ x hx i u hu
    rw [Nat.add_mul] at this
    rw [← this]
    congr 2
    omega
/-- A whole list, as a row of cells. -/
theorem Rows.range {w : World} {b off m c : Nat} {xs : List α} (hf : ∀ x, (f x).length = n) (h : Rows f n w (.slice (some ⟨b, off, none⟩) m c) xs) (h0 : 0 < xs.length) : w.rangeAt b off (cellsL f xs) := by
  obtain ⟨b', off', cap, hv, hcap, hb, hc⟩ := h.pos h0
  injection hv with e1 e2 e3
  injection e1 with e1
  injection e1 with e1 e1'
  subst e1 e1'
  intro j u hu
  obtain ⟨x, hx, hxu⟩ := cellsL_inv hf hu
  have := hc _ x hx _ u hxu
  rw [Nat.add_assoc, Nat.mul_comm, Nat.div_add_mod] at this
  exact this
end Go.Proofs.Ytokmjjjedljcpaa

/- WiTurn: texts for the statements of this seat: contracts of functions, walks, plain laws. Conditions: none. -/
import Derived.Test.YtelgknecainlfaaWiCmp2
set_option linter.all false
/- A slice that reads as turns (a time, a bool). -/
namespace Go.Proofs.Ytelgknecainlfaa
open Go.RowKit Go.Shelf Go.Sort
def tw (l : List T2) : List Value := l.flatMap fun x => [.int .i64 x.1, .bool x.2]
theorem tw_cons (x : T2) (l : List T2) : tw (x :: l) = .int .i64 x.1 :: .bool x.2 :: tw l := rfl
theorem tw_append (l m : List T2) : tw (l ++ m) = tw l ++ tw m := by simp [tw]
theorem tw_length (l : List T2) : (tw l).length = l.length * 2 := by
  induction l with
  | nil => rfl
  | cons x l ih => rw [tw_cons, List.length_cons, List.length_cons, ih, List.length_cons]; omega
theorem tw_get {l : List T2} {j : Nat} {x : T2} (h : l[j]? = some x) : (tw l)[j * 2]? = some (.int .i64 x.1) ∧ (tw l)[j * 2 + 1]? = some (.bool x.2) := by
  induction l generalizing j with
  | nil => simp at h
  | cons y l ih =>
    cases j with
    | zero => simp at h; subst h; exact ⟨rfl, rfl⟩
    | succ j =>
      simp at h
      have := ih h
      rw [tw_cons, Nat.succ_mul]
      exact ⟨by simpa using this.1, by simpa using this.2⟩
theorem tw_one (l : List T2) : ∀ u ∈ tw l, u.oneCell' = true := by
  intro u hu
  simp only [tw, List.mem_flatMap] at hu
  obtain ⟨x, -, hu⟩ := hu
  simp at hu
  rcases hu with rfl | rfl <;> rfl
/-- The triples xs lie in block b from off on. -/
def TwAt (w : World) (b off : Nat) (xs : List T2) : Prop := ∀ j x, xs[j]? = some x → w.cell? ⟨b, off + j * 2, none⟩ = some (.int .i64 x.1) ∧ w.cell? ⟨b, off + j * 2 + 1, none⟩ = some (.bool x.2)
/-- The slice v reads as the triples xs. -/
def Tws (w : World) (v : Value) (xs : List T2) : Prop :=
  (∃ a cap, v = .slice a 0 cap ∧ xs = []) ∨ ∃ b off cap, v = .slice (some ⟨b, off, none⟩) xs.length cap ∧ xs.length ≤ cap ∧ b < w.heap.size ∧ TwAt w b off xs
theorem Tws.len {w : World} {v : Value} {xs : List T2} (h : Tws w v xs) : ∃ a cap, v = .slice a xs.length cap := by
  rcases h with ⟨a, cap, rfl, rfl⟩ | ⟨b, off, cap, rfl, -⟩
  · exact ⟨a, cap, rfl⟩
  · exact ⟨_, cap, rfl⟩
theorem Tws.pos {w : World} {v : Value} {xs : List T2} (h : Tws w v xs) (hp : 0 < xs.length) : ∃ b off cap, v = .slice (some ⟨b, off, none⟩) xs.length cap ∧ xs.length ≤ cap ∧ b < w.heap.size ∧ TwAt w b off xs := by
  rcases h with ⟨a, cap, rfl, rfl⟩ | h
  · simp at hp
  · exact h
theorem TwAt.kept {S : Nat → Prop} {w w' : World} {b off : Nat} {xs : List T2} (h : TwAt w b off xs) (hb : b < w.heap.size) (K : Kept S w w') (hS : ¬ S b) : TwAt w' b off xs := fun j x hx =>
  ⟨(K.cell (a := ⟨b, off + j * 2, none⟩) hb hS).trans (h j x hx).1, (K.cell (a := ⟨b, off + j * 2 + 1, none⟩) hb hS).trans (h j x hx).2⟩
theorem Tws.kept {S : Nat → Prop} {w w' : World} {v : Value} {xs : List T2} (h : Tws w v xs) (K : Kept S w w') (hS : ∀ b, v.ownBlock = some b → 0 < xs.length → ¬ S b) : Tws w' v xs := by
  rcases h with h | ⟨b, off, cap, rfl, hcap, hb, hc⟩
  · exact .inl h
  · cases xs with
    | nil => exact .inl ⟨_, cap, rfl, rfl⟩
    | cons x xs => exact .inr ⟨b, off, cap, rfl, hcap, Nat.lt_of_lt_of_le hb K.size, hc.kept hb K (hS b rfl (by simp))⟩
theorem Tws.same {w w' : World} {v : Value} {xs : List T2} (h : Tws w v xs) (K : Kept (fun _ => False) w w') : Tws w' v xs := h.kept K (fun _ _ _ h => h)
theorem Tws.of_own {w : World} {base e : Nat} {v : Value} {xs : List T2} (h : w.ownsRow base e 2 v xs.length (tw xs)) : Tws w v xs := by
  rcases h.2 with ⟨rfl, h0⟩ | ⟨g, cap, cur, rfl, hg, hh, hcap, -⟩
  · exact .inl ⟨none, 0, rfl, List.eq_nil_of_length_eq_zero h0⟩
  · refine .inr ⟨g, 0, cap, rfl, hcap, (Array.getElem?_eq_some_iff.1 hh).1, fun j x hx => ?_⟩
    have hj := (List.getElem?_eq_some_iff.1 hx).1
    rw [Nat.zero_add, h.cellAt _ (by omega), h.cellAt _ (by omega)]
    exact tw_get hx

end Go.Proofs.Ytelgknecainlfaa

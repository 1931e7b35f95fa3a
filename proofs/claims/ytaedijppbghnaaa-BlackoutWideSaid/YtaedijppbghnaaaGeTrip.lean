/- A slice that reads as triples of numbers (structs of three cells). -/
import Derived.Test.YtaedijppbghnaaaArBase
import Derived.Test.YtaedijppbghnaaaGeRow
import Derived.Lib.Hide
namespace Go.Proofs.Ytaedijppbghnaaa
open Go.RowKit

abbrev T3 := Int × Int × Int
def tc (l : List T3) : List Value := l.flatMap fun x => [.int .i64 x.1, .int .i64 x.2.1, .int .i64 x.2.2]
theorem tc_cons (x : T3) (l : List T3) : tc (x :: l) = .int .i64 x.1 :: .int .i64 x.2.1 :: .int .i64 x.2.2 :: tc l := rfl
theorem tc_append (l m : List T3) : tc (l ++ m) = tc l ++ tc m := by simp [tc]
theorem tc_length (l : List T3) : (tc l).length = l.length * 3 := by
  induction l with
  | nil => rfl
  | cons x l ih => rw [tc_cons, List.length_cons, List.length_cons, List.length_cons, ih, List.length_cons]; omega
theorem tc_get {l : List T3} {j : Nat} {x : T3} (h : l[j]? = some x) : (tc l)[j * 3]? = some (.int .i64 x.1) ∧ (tc l)[j * 3 + 1]? = some (.int .i64 x.2.1) ∧ (tc l)[j * 3 + 2]? = some (.int .i64 x.2.2) := by
  induction l generalizing j with
  | nil => simp at h
  | cons y l ih =>
    cases j with
    | zero => simp at h; subst h; exact ⟨rfl, rfl, rfl⟩
    | succ j =>
      simp at h
      have := ih h
      rw [tc_cons, Nat.succ_mul]
      exact ⟨by simpa using this.1, by simpa using this.2.1, by simpa using this.2.2⟩
theorem tc_one (l : List T3) : ∀ u ∈ tc l, u.oneCell' = true := by
  intro u hu
  simp only [tc, List.mem_flatMap] at hu
  obtain ⟨x, -, hu⟩ := hu
  simp at hu
  rcases hu with rfl | rfl | rfl <;> rfl
/-- The triples xs lie in block b from off on. -/
def TripAt (w : World) (b off : Nat) (xs : List T3) : Prop := ∀ j x, xs[j]? = some x → w.cell? ⟨b, off + j * 3, none⟩ = some (.int .i64 x.1) ∧ w.cell? ⟨b, off + j * 3 + 1, none⟩ = some (.int .i64 x.2.1) ∧ w.cell? ⟨b, off + j * 3 + 2, none⟩ = some (.int .i64 x.2.2)
/-- The slice v reads as the triples xs. -/
def Trs (w : World) (v : Value) (xs : List T3) : Prop :=
  (∃ a cap, v = .slice a 0 cap ∧ xs = []) ∨ ∃ b off cap, v = .slice (some ⟨b, off, none⟩) xs.length cap ∧ xs.length ≤ cap ∧ b < w.heap.size ∧ TripAt w b off xs
theorem Trs.len {w : World} {v : Value} {xs : List T3} (h : Trs w v xs) : ∃ a cap, v = .slice a xs.length cap := by
  rcases h with ⟨a, cap, rfl, rfl⟩ | ⟨b, off, cap, rfl, -⟩
  · exact ⟨a, cap, rfl⟩
  · exact ⟨_, cap, rfl⟩
theorem Trs.pos {w : World} {v : Value} {xs : List T3} (h : Trs w v xs) (hp : 0 < xs.length) : ∃ b off cap, v = .slice (some ⟨b, off, none⟩) xs.length cap ∧ xs.length ≤ cap ∧ b < w.heap.size ∧ TripAt w b off xs := by
  rcases h with ⟨a, cap, rfl, rfl⟩ | h
  · simp at hp
  · exact h
theorem TripAt.kept {S : Nat → Prop} {w w' : World} {b off : Nat} {xs : List T3} (h : TripAt w b off xs) (hb : b < w.heap.size) (K : Kept S w w') (hS : ¬ S b) : TripAt w' b off xs := fun j x hx =>
  ⟨(K.cell (a := ⟨b, off + j * 3, none⟩) hb hS).trans (h j x hx).1, (K.cell (a := ⟨b, off + j * 3 + 1, none⟩) hb hS).trans (h j x hx).2.1, (K.cell (a := ⟨b, off + j * 3 + 2, none⟩) hb hS).trans (h j x hx).2.2⟩
theorem Trs.kept {S : Nat → Prop} {w w' : World} {v : Value} {xs : List T3} (h : Trs w v xs) (K : Kept S w w') (hS : ∀ b, v.ownBlock = some b → 0 < xs.length → ¬ S b) : Trs w' v xs := by
  rcases h with h | ⟨b, off, cap, rfl, hcap, hb, hc⟩
  · exact .inl h
  · cases xs with
    | nil => exact .inl ⟨_, cap, rfl, rfl⟩
    | cons x xs => exact .inr ⟨b, off, cap, rfl, hcap, Nat.lt_of_lt_of_le hb K.size, hc.kept hb K (hS b rfl (by simp))⟩
theorem Trs.same {w w' : World} {v : Value} {xs : List T3} (h : Trs w v xs) (K : Kept (fun _ => False) w w') : Trs w' v xs := h.kept K (fun _ _ _ h => h)
theorem Trs.of_own {w : World} {base e : Nat} {v : Value} {xs : List T3} (h : w.ownsRow base e 3 v xs.length (tc xs)) : Trs w v xs := by
  rcases h.2 with ⟨rfl, h0⟩ | ⟨g, cap, cur, rfl, hg, hh, hcap, -⟩
  · exact .inl ⟨none, 0, rfl, List.eq_nil_of_length_eq_zero h0⟩
  · refine .inr ⟨g, 0, cap, rfl, hcap, (Array.getElem?_eq_some_iff.1 hh).1, fun j x hx => ?_⟩
    have hj := (List.getElem?_eq_some_iff.1 hx).1
    rw [Nat.zero_add, h.cellAt _ (by omega), h.cellAt _ (by omega), h.cellAt _ (by omega)]
    exact tc_get hx
end Go.Proofs.Ytaedijppbghnaaa

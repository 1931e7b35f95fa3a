/- GePair: texts for the statements of this seat: contracts of functions, walks, plain laws. Conditions: none. -/
import Derived.Lib.Hide
import Derived.Test.YtokmjjjedljcpaaArBase
import Derived.Test.YtokmjjjedljcpaaGeRow
set_option linter.all false
/- A slice that reads as pairs of numbers (structs of two fields). -/
namespace Go.Proofs.Ytokmjjjedljcpaa
open Go.RowKit

def pc (l : List (Int × Int)) : List Value := l.flatMap fun x => [.int .i64 x.1, .int .i64 x.2]
theorem pc_cons (x : Int × Int) (l : List (Int × Int)) : pc (x :: l) = .int .i64 x.1 :: .int .i64 x.2 :: pc l := rfl
theorem pc_append (l m : List (Int × Int)) : pc (l ++ m) = pc l ++ pc m := by simp [pc]
theorem pc_length (l : List (Int × Int)) : (pc l).length = l.length * 2 := by
  induction l with
  | nil => rfl
  | cons x l ih => rw [pc_cons, List.length_cons, List.length_cons, ih, List.length_cons]; omega
theorem pc_get {l : List (Int × Int)} {j : Nat} {x : Int × Int} (h : l[j]? = some x) : (pc l)[j * 2]? = some (.int .i64 x.1) ∧ (pc l)[j * 2 + 1]? = some (.int .i64 x.2) := by
  induction l generalizing j with
  | nil => simp at h
  | cons y l ih =>
    cases j with
    | zero => simp at h; subst h; exact ⟨rfl, rfl⟩
    | succ j =>
      simp at h
      have := ih h
      rw [pc_cons, Nat.succ_mul]
      exact ⟨by simpa using this.1, by simpa using this.2⟩
theorem pc_one (l : List (Int × Int)) : ∀ u ∈ pc l, u.oneCell' = true := by
  intro u hu
  simp only [pc, List.mem_flatMap] at hu
  obtain ⟨x, -, hu⟩ := hu
  simp at hu
  rcases hu with rfl | rfl <;> rfl

/-- The slice v reads as the pairs xs. -/
def Prs (w : World) (v : Value) (xs : List (Int × Int)) : Prop :=
  (∃ a cap, v = .slice a 0 cap ∧ xs = []) ∨ ∃ b off cap, v = .slice (some ⟨b, off, none⟩) xs.length cap ∧ b < w.heap.size ∧ ∀ j x, xs[j]? = some x → w.cell? ⟨b, off + j * 2, none⟩ = some (.int .i64 x.1) ∧ w.cell? ⟨b, off + j * 2 + 1, none⟩ = some (.int .i64 x.2)
theorem Prs.len {w : World} {v : Value} {xs : List (Int × Int)} (h : Prs w v xs) : ∃ a cap, v = .slice a xs.length cap := by
  rcases h with ⟨a, cap, rfl, rfl⟩ | ⟨b, off, cap, rfl, -⟩
  · exact ⟨a, cap, rfl⟩
  · exact ⟨_, cap, rfl⟩
theorem Prs.pos {w : World} {v : Value} {xs : List (Int × Int)} (h : Prs w v xs) (hp : 0 < xs.length) : ∃ b off cap, v = .slice (some ⟨b, off, none⟩) xs.length cap ∧ b < w.heap.size ∧ ∀ j x, xs[j]? = some x → w.cell? ⟨b, off + j * 2, none⟩ = some (.int .i64 x.1) ∧ w.cell? ⟨b, off + j * 2 + 1, none⟩ = some (.int .i64 x.2) := by
  rcases h with ⟨a, cap, rfl, rfl⟩ | h
  · simp at hp
  · exact h
theorem Prs.nil (w : World) (a : Option Addr) (cap : Nat) : Prs w (.slice a 0 cap) [] := .inl ⟨a, cap, rfl, rfl⟩
theorem Prs.kept {S : Nat → Prop} {w w' : World} {v : Value} {xs : List (Int × Int)} (h : Prs w v xs) (K : Kept S w w') (hS : ∀ b, v.ownBlock = some b → 0 < xs.length → ¬ S b) : Prs w' v xs := by
  rcases h with h | ⟨b, off, cap, rfl, hb, hc⟩
  · exact .inl h
  · refine .inr ⟨b, off, cap, rfl, Nat.lt_of_lt_of_le hb K.size, fun j x hx => ?_⟩
    have hS' := hS b rfl (by have := (List.getElem?_eq_some_iff.1 hx).1; omega)
    exact ⟨(K.cell (a := ⟨b, off + j * 2, none⟩) hb hS').trans (hc j x hx).1, (K.cell (a := ⟨b, off + j * 2 + 1, none⟩) hb hS').trans (hc j x hx).2⟩
theorem Prs.same {w w' : World} {v : Value} {xs : List (Int × Int)} (h : Prs w v xs) (K : Kept (fun _ => False) w w') : Prs w' v xs := h.kept K (fun _ _ _ h => h)
theorem Prs.block {w : World} {v : Value} {xs : List (Int × Int)} (h : Prs w v xs) {b : Nat} (hb : v.ownBlock = some b) (hx : 0 < xs.length) : b < w.heap.size := by
  obtain ⟨b', off, cap, rfl, hb', -⟩ := h.pos hx
  simp [Value.ownBlock] at hb
  omega
theorem Prs.of_own {w : World} {base e : Nat} {v : Value} {xs : List (Int × Int)} (h : w.ownsRow base e 2 v xs.length (pc xs)) : Prs w v xs := by
  rcases h.2 with ⟨rfl, h0⟩ | ⟨g, cap, cur, rfl, hg, hh, -⟩
  · exact .inl ⟨none, 0, rfl, List.eq_nil_of_length_eq_zero h0⟩
  · refine .inr ⟨g, 0, cap, rfl, (Array.getElem?_eq_some_iff.1 hh).1, fun j x hx => ?_⟩
    have hj := (List.getElem?_eq_some_iff.1 hx).1
    rw [Nat.zero_add, h.cellAt _ (by omega), h.cellAt _ (by omega)]
    exact pc_get hx
/-- A block of pairs. -/
theorem Prs.lit {w : World} {b n cap : Nat} {cs : Array Value} {xs : List (Int × Int)} (hb : b < w.heap.size) (hn : xs.length = n) (hc : ∀ j, w.cell? ⟨b, j, none⟩ = cs[j]?) (hcs : cs.toList = pc xs) : Prs w (.slice (some ⟨b, 0, none⟩) n cap) xs := by
  subst hn
  refine .inr ⟨b, 0, cap, rfl, hb, fun j x hx => ?_⟩
  rw [Nat.zero_add, hc, hc, ← Array.getElem?_toList, ← Array.getElem?_toList, hcs]
  exact pc_get hx
theorem Prs.new {w : World} {t n cap b : Nat} {cs : Array Value} (xs : List (Int × Int)) (hb : b = w.heap.size) (hn : xs.length = n) (hcs : cs.toList = pc xs) : Prs (w.alloc (.cells cs t)) (.slice (some ⟨b, 0, none⟩) n cap) xs :=
  .lit (by simp [hb]) hn (fun j => World.cell?_alloc_at _ _ _ _ hb) hcs
/-- A part of a slice. -/
theorem Prs.at {w : World} {xs : List (Int × Int)} {b off : Nat} (hc : ∀ j x, xs[j]? = some x → w.cell? ⟨b, off + j * 2, none⟩ = some (.int .i64 x.1) ∧ w.cell? ⟨b, off + j * 2 + 1, none⟩ = some (.int .i64 x.2)) {j : Nat} (hj : j < xs.length) : w.cell? ⟨b, off + j * 2, none⟩ = some (.int .i64 xs[j].1) ∧ w.cell? ⟨b, off + j * 2 + 1, none⟩ = some (.int .i64 xs[j].2) :=
  hc j _ (List.getElem?_eq_getElem hj)
end Go.Proofs.Ytokmjjjedljcpaa

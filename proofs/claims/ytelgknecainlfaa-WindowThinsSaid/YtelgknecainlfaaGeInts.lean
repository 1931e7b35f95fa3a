/- GeInts: texts for the statements of this seat: contracts of functions, walks, plain laws. Conditions: none. -/
import Derived.Lib.Hide
import Derived.Test.YtelgknecainlfaaArBase
set_option linter.all false
/- A slice that reads as numbers of one kind. -/

namespace Go.Proofs.Ytelgknecainlfaa
open Go.RowKit

/-- The slice v reads as the numbers xs (of the kind k). -/
def IntsK (k : IntKind) (w : World) (v : Value) (xs : List Int) : Prop :=
  (∃ a cap, v = .slice a 0 cap ∧ xs = []) ∨ ∃ b off cap, v = .slice (some ⟨b, off, none⟩) xs.length cap ∧ b < w.heap.size ∧ ∀ j x, xs[j]? = some x → w.cell? ⟨b, off + j, none⟩ = some (.int k x)
abbrev Ints := IntsK .i64
variable {k : IntKind}
theorem IntsK.len {w : World} {v : Value} {xs : List Int} (h : IntsK k w v xs) : ∃ a cap, v = .slice a xs.length cap := by
  rcases h with ⟨a, cap, rfl, rfl⟩ | ⟨b, off, cap, rfl, -⟩
  · exact ⟨a, cap, rfl⟩
  · exact ⟨_, cap, rfl⟩
theorem IntsK.pos {w : World} {v : Value} {xs : List Int} (h : IntsK k w v xs) (hp : 0 < xs.length) : ∃ b off cap, v = .slice (some ⟨b, off, none⟩) xs.length cap ∧ b < w.heap.size ∧ ∀ j x, xs[j]? = some x → w.cell? ⟨b, off + j, none⟩ = some (.int k x) := by
  rcases h with ⟨a, cap, rfl, rfl⟩ | h
  · simp at hp
  · exact h
theorem IntsK.of_own {w : World} {base e : Nat} {v : Value} {xs : List Int} (h : w.ownsRow base e 1 v xs.length (xs.map (Value.int k))) : IntsK k w v xs := by
  rcases h.2 with ⟨rfl, h0⟩ | ⟨g, cap, cur, rfl, hg, hh, -⟩
  · exact .inl ⟨none, 0, rfl, List.eq_nil_of_length_eq_zero h0⟩
  · refine .inr ⟨g, 0, cap, rfl, (Array.getElem?_eq_some_iff.1 hh).1, fun j x hx => ?_⟩
    rw [Nat.zero_add, h.cellAt j (by have := (List.getElem?_eq_some_iff.1 hx).1; omega), List.getElem?_map, hx]; rfl
theorem IntsK.kept {S : Nat → Prop} {w w' : World} {v : Value} {xs : List Int} (h : IntsK k w v xs) (K : Kept S w w') (hS : ∀ b, v.ownBlock = some b → 0 < xs.length → ¬ S b) : IntsK k w' v xs := by
  rcases h with h | ⟨b, off, cap, rfl, hb, hc⟩
  · exact .inl h
  · refine .inr ⟨b, off, cap, rfl, Nat.lt_of_lt_of_le hb K.size, fun j x hx => (K.cell (a := ⟨b, off + j, none⟩) hb (hS b rfl (by have := (List.getElem?_eq_some_iff.1 hx).1; omega))).trans (hc j x hx)⟩
theorem IntsK.same {w w' : World} {v : Value} {xs : List Int} (h : IntsK k w v xs) (K : Kept (fun _ => False) w w') : IntsK k w' v xs := h.kept K (fun _ _ _ h => h)
theorem IntsK.block {w : World} {v : Value} {xs : List Int} (h : IntsK k w v xs) {b : Nat} (hb : v.ownBlock = some b) (hx : 0 < xs.length) : b < w.heap.size := by
  obtain ⟨b', off, cap, rfl, hb', -⟩ := h.pos hx
  simp [Value.ownBlock] at hb
  omega
/-- A block of numbers. -/
theorem IntsK.lit {w : World} {b n cap : Nat} {cs : Array Value} {xs : List Int} (hb : b < w.heap.size) (hn : xs.length = n) (hc : ∀ j, w.cell? ⟨b, j, none⟩ = cs[j]?) (hcs : cs.toList = xs.map (Value.int k)) : IntsK k w (.slice (some ⟨b, 0, none⟩) n cap) xs := by
  subst hn
  refine .inr ⟨b, 0, cap, rfl, hb, fun j x hx => ?_⟩
  rw [Nat.zero_add, hc, ← Array.getElem?_toList, hcs, List.getElem?_map, hx]
  rfl
/-- A block of numbers, just made. -/
theorem IntsK.new {w : World} {t n cap b : Nat} {cs : Array Value} (xs : List Int) (hb : b = w.heap.size) (hn : xs.length = n) (hcs : cs.toList = xs.map (Value.int k)) : IntsK k (w.alloc (.cells cs t)) (.slice (some ⟨b, 0, none⟩) n cap) xs :=
  .lit (by simp [hb]) hn (fun j => World.cell?_alloc_at _ _ _ _ hb) hcs
end Go.Proofs.Ytelgknecainlfaa

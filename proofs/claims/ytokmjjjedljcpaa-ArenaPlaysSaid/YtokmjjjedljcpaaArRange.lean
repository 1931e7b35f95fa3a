/- ArRange: texts for the statements of this seat: contracts of functions, walks, plain laws. Conditions: none. -/
import Derived.RangeFuncNested
import Derived.RangeFuncBound
import Derived.RangeFuncCalls
import Derived.RangeFuncLeaves
import Derived.RangeFuncBox
import Derived.Shelf.Abstract
import Derived.Shelf.RegionOpen
import Derived.WalkKit
import Derived.OwnWalkIn
import Derived.TacticsInMore
import Derived.LoopNIn
import Derived.LoopIn
import Derived.Maps.AppendAt
import Derived.Test.YtokmjjjedljcpaaArBase
set_option linter.all false
/- A range over a function, said in 'Kept'. -/
namespace Go.Proofs.Ytokmjjjedljcpaa
open Go.RowKit Go.Shelf

/-- A block from B on that holds no cells. -/
def NoCells (B : Nat) (W : World) (b : Nat) : Prop := B ≤ b ∧ ∃ o : Obj, W.heap[b]? = some o ∧ o.isCells = false

theorem ownFrom_of {β : Type} {B : Nat} {I : β → World → Prop} (h : ∀ s W W', I s W → Kept (NoCells B W) W W' → I s W') : OwnFrom B I :=
  fun s W W' _ hs hg hr => h s W W' hs ((Kept.of_grown hg).mono fun b _ hb => hr b hb)

theorem keepsFrom_of_kept {B : Nat} {S : Nat → Prop} {W W' : World} (h : Kept S W W') (hS : ∀ b, S b → ¬ NoCells B W b) : KeepsFrom B W W' :=
  ⟨h.size, fun k o hB hk ho => (h.block k (Array.getElem?_eq_some_iff.1 hk).1 (fun s => hS k s ⟨hB, o, hk, ho⟩)).trans hk⟩

theorem ownsRow_cells {w : World} {base e size : Nat} {v : Value} {n : Nat} {xs : List Value} (h : w.ownsRow base e size v n xs) {B b : Nat} (hb : v.ownBlock = some b) : ¬ NoCells B w b := by
  rintro ⟨-, o, ho, hc⟩
  rcases h.2 with ⟨rfl, -⟩ | ⟨g, cap, cur, rfl, hg, hh, -⟩
  · simp [Value.ownBlock] at hb
  · simp [Value.ownBlock] at hb
    subst hb
    rw [hh] at ho
    obtain rfl := Option.some.inj ho
    simp [Obj.isCells] at hc
theorem boxed_cells {W : World} {b t : Nat} {v : Value} (h : Boxed W b t v) {B : Nat} : ¬ NoCells B W b := by
  rintro ⟨-, o, ho, hc⟩
  rw [show W.heap[b]? = _ from h] at ho
  obtain rfl := Option.some.inj ho
  simp [Obj.isCells] at hc
theorem boxed_keptS {S : Nat → Prop} {W W' : World} {b t : Nat} {v : Value} (h : Boxed W b t v) (K : Kept S W W') (hS : ¬ S b) : Boxed W' b t v := (K.block b h.lt hS).trans h

theorem kept_putObj {S : Nat → Prop} (W : World) (l : Nat) (o : Obj) (h : l < W.heap.size → S l) : Kept S W (W.putObj l o) :=
  (Kept.of_grown (grownBy_putObj' W l o)).mono fun b hb e => by injection e with e; subst e; exact h hb
end Go.Proofs.Ytokmjjjedljcpaa

/- OcSort: texts for the statements of this seat: contracts of functions, walks, plain laws. Conditions: none. -/
import Derived.Test.YthpbejdigllmbaaDoorOcSl
import Derived.Test.YthpbejdigllmbaaDoorOcShelf
import Derived.Sort.OwnSortedInts
namespace Go.Proofs.YthpbejdigllmbaaDoor
open Go.RowKit Go.Sort

def srt (xs : List Int) : List Int := xs.mergeSort fun x y => decide (x ≤ y)
theorem srt_length (xs : List Int) : (srt xs).length = xs.length := List.length_mergeSort _
def SortPost (base : Nat) (v : Value) (xs : List Int) (w : World) (e : Ending) (w' : World) : Prop :=
  e = .returned (.tuple #[]) ∧ w'.ownsRow base 3 1 v xs.length ((srt xs).map (Value.int .i64)) ∧ Kept (fun b => v.ownBlock = some b) w w'
theorem sort_c {w : World} {base : Nat} {v : Value} (xs : List Int) (hl : xs.length ≤ 1000000000) (hown : w.ownsRow base 3 1 v xs.length (xs.map (Value.int .i64))) :
    Calls Tryd.prog 34 #[v] w (SortPost base v xs w) := by
  rcases hown.2 with ⟨rfl, h0⟩ | ⟨g, cap, cur, rfl, hg, hh, h1, h2, h3, h4⟩
  · obtain rfl : xs = [] := List.eq_nil_of_length_eq_zero h0
    refine (Tryd.slices_Sort_int_none none 0 w).mono ?_
    rintro e w' ⟨rfl, rfl⟩
    exact ⟨rfl, by rw [show srt [] = [] from by simp [srt]]; exact World.ownsRow_nil _ _ _ _, Kept.refl _ _⟩
  · have hbl : g < w.heap.size := (Array.getElem?_eq_some_iff.1 hh).1
    rw [Nat.mul_one] at h4
    refine (Tryd.slices_Sort_int g 0 cap xs w (holds_of_blockI hh h4) hbl (by omega)).mono ?_
    rintro e w' ⟨rfl, n, os, rfl⟩
    exact ⟨rfl, ownsRow_sortedI (srt_length xs) hg hh h1 h2 h3, (Kept.of_grown (grownBy_sortedI _)).mono (fun i _ h => by simp [Value.ownBlock]; exact Option.some.inj h)⟩
theorem srt_perm (l : List Int) : (srt l).Perm l := List.mergeSort_perm l _
theorem srt_sorted (l : List Int) : (srt l).Pairwise (· ≤ ·) := by
  have := List.pairwise_mergeSort (le := fun x y : Int => decide (x ≤ y)) (by intro a b c; simp; omega) (by intro a b; simp; omega) l
  unfold srt
  simpa using this
theorem srt_eq {l r : List Int} (hp : l.Perm r) (hs : r.Pairwise (· ≤ ·)) : srt l = r :=
  List.Perm.eq_of_pairwise (le := (· ≤ ·)) (fun a b _ _ h1 h2 => by omega) (srt_sorted l) hs ((srt_perm l).trans hp)
end Go.Proofs.YthpbejdigllmbaaDoor

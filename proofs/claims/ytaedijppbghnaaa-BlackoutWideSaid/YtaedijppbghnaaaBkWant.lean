/- What the three results want. -/
import Derived.Test.YtaedijppbghnaaaBkW1
import Derived.Test.YtaedijppbghnaaaGeAppN
namespace Go.Proofs.Ytaedijppbghnaaa
open Go.RowKit
open Bk (Sp has)
def wOr (x y : Bool) : Bool := x || y
def wAnd (x y : Bool) : Bool := x && y
def wNot (x y : Bool) : Bool := x && !y
def inS (t : Int) (s : Sp) : Bool := decide (s.1 ≤ t) && decide (t ≤ s.2)
theorem has_any (l : List Sp) (t : Int) : has l t = l.any (inS t) := rfl
theorem info42q : (Try.prog.info? 42).map (fun i => (i.zero, i.size, i.bytes)) = some (some (.agg #[.int .i64 0, .int .i64 0]), 2, 16) := by kernel_rfl
theorem el23 : ElemOk Try.prog 23 42 2 16 := .mk' Try.underlying23 info42q rfl (by decide)

/-- One cell of a row of the call's own is stored. -/
theorem ownsRow_setAt {W : World} {base e size g n cg : Nat} {xs : List Value} (h : W.ownsRow base e size (.slice (some ⟨g, 0, none⟩) n cg) n xs) (j : Nat) (y : Value) :
    (W.setCell ⟨g, j, none⟩ y).ownsRow base e size (.slice (some ⟨g, 0, none⟩) n cg) n (xs.set j y) := by
  refine ⟨by rw [List.length_set]; exact h.1, ?_⟩
  rcases h.2 with ⟨q, -⟩ | ⟨g', cap', cur, q, hg, hh, h1, h2, h3, h4⟩
  · cases q
  · injection q with q q2 q3
    injection q with q
    injection q with q
    subst q q3
    refine .inr ⟨g, cg, cur.setIfInBounds j y, rfl, hg, ?_, h1, h2, by simpa using h3, ?_⟩
    · simp [World.setCell, Array.getElem?_modify, hh]
    · rw [Array.toList_setIfInBounds, List.take_set, h4]
/-- The last one's end is stored. -/
theorem own_set2 {W : World} {base g cg : Nat} {acc : List Sp} {f u : Int} (h : W.ownsRow base 42 2 (.slice (some ⟨g, 0, none⟩) (acc.length + 1) cg) (acc.length + 1) (pc (acc ++ [(f, u)]))) (y : Int) :
    (W.setCell ⟨g, acc.length * 2 + 1, none⟩ (.int .i64 y)).ownsRow base 42 2 (.slice (some ⟨g, 0, none⟩) (acc.length + 1) cg) (acc.length + 1) (pc (acc ++ [(f, y)])) := by
  have h2 := ownsRow_setAt h (acc.length * 2 + 1) (.int .i64 y)
  have e : (pc (acc ++ [(f, u)])).set (acc.length * 2 + 1) (.int .i64 y) = pc (acc ++ [(f, y)]) := by
    rw [pc_append, pc_append, List.set_append_right _ _ (by rw [pc_length]; omega), pc_length, show acc.length * 2 + 1 - acc.length * 2 = 1 by omega]
    rfl
  rw [e] at h2
  exact h2

end Go.Proofs.Ytaedijppbghnaaa

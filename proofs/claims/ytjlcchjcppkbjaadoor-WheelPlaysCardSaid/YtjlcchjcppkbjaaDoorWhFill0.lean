/- WhFill0: texts for the statements of this seat: contracts of functions, walks, plain laws. Conditions: none. -/
import Derived.Test.YtjlcchjcppkbjaaDoorWhSt
import Derived.Test.YtjlcchjcppkbjaaDoorWhArg
set_option linter.all false
/- Scripts. -/
namespace Go.Proofs.YtjlcchjcppkbjaaDoor
open Go.RowKit
def Wh.step (W : Wh) (s : Sp) : Wh := if s.d = 0 then (W.add s.at_ s.id).1 else if s.d = 1 then (W.cancel s.h).1 else if s.d = 2 then (W.advance s.at_).1 else W
def Wh.run (W : Wh) (l : List Sp) : Wh := l.foldl Wh.step W
theorem add_sl (W : Wh) (a b : Int) : (W.add a b).1.seq ≤ W.seq + 1 ∧ (W.add a b).1.l.length ≤ W.l.length + 1 ∧ W.seq ≤ (W.add a b).1.seq := by
  unfold Wh.add
  split
  · simp only; omega
  split
  · simp only; omega
  split
  · simp only
    rw [(ins_perm _ _).length_eq, List.length_cons]
    omega
  · simp only; omega
theorem cancel_sl (W : Wh) (h : Int) : (W.cancel h).1.seq = W.seq ∧ (W.cancel h).1.l.length ≤ W.l.length := by
  unfold Wh.cancel
  split
  · exact ⟨rfl, List.length_filter_le _ _⟩
  · exact ⟨rfl, Nat.le_refl _⟩
theorem rest_le (t : Int) (l : List Tm) : (rest t l).length ≤ l.length := by
  have := congrArg List.length (due_rest t l)
  rw [List.length_append] at this
  omega
theorem advance_sl (W : Wh) (t : Int) : (W.advance t).1.seq = W.seq ∧ (W.advance t).1.l.length ≤ W.l.length := by
  unfold Wh.advance
  split
  · exact ⟨rfl, Nat.le_refl _⟩
  split
  · exact ⟨rfl, Nat.le_refl _⟩
  · exact ⟨rfl, rest_le _ _⟩
theorem step_sl (W : Wh) (s : Sp) : (W.step s).seq ≤ W.seq + 1 ∧ (W.step s).l.length ≤ W.l.length + 1 := by
  unfold Wh.step
  split
  · have := add_sl W s.at_ s.id; omega
  split
  · have := cancel_sl W s.h; omega
  split
  · have := advance_sl W s.at_; omega
  · omega
theorem run_sl (l : List Sp) : ∀ W : Wh, (W.run l).seq ≤ W.seq + l.length ∧ (W.run l).l.length ≤ W.l.length + l.length := by
  induction l with
  | nil => intro W; exact ⟨by simp [Wh.run], by simp [Wh.run]⟩
  | cons s l ih =>
    intro W
    have h1 := step_sl W s
    have h2 := ih (W.step s)
    have h3 : W.run (s :: l) = (W.step s).run l := rfl
    rw [h3, List.length_cons]
    omega
theorem run_snoc (W : Wh) (l : List Sp) (s : Sp) : W.run (l ++ [s]) = (W.run l).step s := by simp [Wh.run]
theorem run_take {W : Wh} {l : List Sp} {k : Nat} {s : Sp} (h : l[k]? = some s) : W.run (l.take (k + 1)) = (W.run (l.take k)).step s := by
  rw [List.take_add_one, h]
  exact run_snoc _ _ _
/-- A place of a list of steps. -/
theorem sp_at {w : World} {v : Value} {l : List Sp} (h : Rows spC 4 w v l) {k : Nat} {x : Sp} (hk : l[k]? = some x) : ∃ b off c, v = .slice (some ⟨b, off, none⟩) l.length c ∧ (w.cell? ⟨b, off + k * 4, none⟩ = some (.int .i64 x.d) ∧ w.cell? ⟨b, off + k * 4 + 1, none⟩ = some (.int .i64 x.at_) ∧ w.cell? ⟨b, off + k * 4 + 2, none⟩ = some (.int .i64 x.id) ∧ w.cell? ⟨b, off + k * 4 + 3, none⟩ = some (.int .i64 x.h)) ∧ b < w.heap.size := by
  have hlt := (List.getElem?_eq_some_iff.1 hk).1
  obtain ⟨b, off, c, rfl, h1, h2, h3⟩ := h.pos (by omega)
  exact ⟨b, off, c, rfl, ⟨h3 k x hk 0 _ rfl, h3 k x hk 1 _ rfl, h3 k x hk 2 _ rfl, h3 k x hk 3 _ rfl⟩, h2⟩
variable {w w' : World} {W : Wh} {B : Nat} {F : Nat → Prop} {w0 : World}
theorem Wl.down (h : Wl w w' F B W) (hT : Tab w0) (K : Kept (fun _ => False) w0 w) : Wl w0 w' F B W := by
  obtain ⟨-, kd, h1, h2, h3⟩ := h
  exact ⟨hT, kd, h1.base K.size, h2, K.trans h3 (fun _ _ h => h)⟩
end Go.Proofs.YtjlcchjcppkbjaaDoor

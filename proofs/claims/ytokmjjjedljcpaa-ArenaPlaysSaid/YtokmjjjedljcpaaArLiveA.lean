/- ArLiveA: texts for the statements of this seat: contracts of functions, walks, plain laws. Conditions: none. -/
import Derived.Test.YtokmjjjedljcpaaArLive2
set_option linter.all false
namespace Go.Proofs.Ytokmjjjedljcpaa
open Go.RowKit

theorem Rep.upto {A : Ar} {a : AA} (R : Rep A a) : A.upto A.sl.length = a.upto := by
  unfold Ar.upto AA.upto
  rw [R.length]
  congr 1
  funext j
  rw [R.getU]
  cases A.sl[j]? <;> rfl
theorem Rep.hnd {A : Ar} {a : AA} (R : Rep A a) (k : Nat) : A.hnd k = a.hnd k := by
  unfold Ar.hnd AA.hnd
  rw [R.getU]
  cases A.sl[k]? <;> rfl

/-- What Live hands back: a slice of its own with the handles. -/
def LivesAt (W0 : World) (a : AA) (e : Ending) (W' : World) : Prop := ∃ v, e = .returned v ∧ W'.ownsRow W0.heap.size 27 1 v a.live.length (a.live.map (Value.int .i64)) ∧ Kept (fun _ => False) W0 W'

theorem live_a {ab sb cap : Nat} {a : AA} {w : World} (I : IsA w ab sb cap a) : Calls Try.prog 17 #[.pointer (some ⟨ab, 0, none⟩)] w (LivesAt w a) := by
  obtain ⟨A, i, r⟩ := I
  refine (live_c ab sb cap A r.ok w i).mono ?_
  rintro e w' ⟨v, rfl, hr, k⟩
  refine ⟨v, rfl, ?_, k⟩
  have e : a.live = (A.upto A.sl.length).map A.hnd := by
    unfold AA.live
    rw [r.upto]
    exact List.map_congr_left fun k _ => (r.hnd k).symm
  rw [e, List.length_map, List.map_map]
  exact hr

theorem AA.live_length (a : AA) : a.live.length = a.len := by
  unfold AA.live AA.upto AA.len
  rw [List.length_map]
  have : ∀ n, n ≤ a.sl.length → ((List.range n).filter fun j => match a.sl[j]? with | some s => s.taken | none => false).length = (a.sl.take n).countP (·.taken) := by
    intro n
    induction n with
    | zero => intro _; rfl
    | succ n ih =>
      intro hn
      have hs : a.sl[n]? = some a.sl[n] := List.getElem?_eq_getElem (by omega)
      rw [List.range_succ, List.filter_append, List.length_append, ih (by omega), List.take_add_one, hs, List.countP_append]
      simp only [List.filter_cons, hs, List.filter_nil, Option.toList_some, List.countP_cons, List.countP_nil]
      cases a.sl[n].taken <;> rfl
  exact (this _ (Nat.le_refl _)).trans (by rw [List.take_length])
end Go.Proofs.Ytokmjjjedljcpaa

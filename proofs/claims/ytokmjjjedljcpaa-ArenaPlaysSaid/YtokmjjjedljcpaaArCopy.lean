/- ArCopy: texts for the statements of this seat: contracts of functions, walks, plain laws. Conditions: none. -/
import Derived.Test.YtokmjjjedljcpaaArLiveA
set_option linter.all false
namespace Go.Proofs.Ytokmjjjedljcpaa
open Go.RowKit

theorem Try.info68' : (Try.prog.info? 68).map (fun i => (i.zero, i.size, i.bytes)) = some (some (.agg #[.int .i64 0, .int .i64 0, .bool false, .int .i64 0]), 4, 32) := by kernel_rfl
theorem el43 : ElemOk Try.prog 43 68 4 32 := .mk' Try.underlying43 Try.info68' rfl (by decide)

/-- The cells of slots. -/
def slotCells (sl : List Sl) : List Value := sl.flatMap fun s => [.int .i64 s.use, .int .i64 s.v, .bool s.taken, .int .i64 s.next]
theorem slotCells_length (sl : List Sl) : (slotCells sl).length = sl.length * 4 := by
  induction sl with
  | nil => rfl
  | cons s l ih => simp only [slotCells, List.flatMap_cons, List.length_append, List.length_cons] at ih ⊢; rw [ih]; simp; omega
theorem slotCells_get {sl : List Sl} {k : Nat} {s : Sl} (h : sl[k]? = some s) :
    (slotCells sl)[k * 4]? = some (.int .i64 s.use) ∧ (slotCells sl)[k * 4 + 1]? = some (.int .i64 s.v) ∧ (slotCells sl)[k * 4 + 2]? = some (.bool s.taken) ∧ (slotCells sl)[k * 4 + 3]? = some (.int .i64 s.next) := by
  induction sl generalizing k with
  | nil => simp at h
  | cons t l ih =>
    have e : slotCells (t :: l) = [.int .i64 t.use, .int .i64 t.v, .bool t.taken, .int .i64 t.next] ++ slotCells l := rfl
    cases k with
    | zero => simp at h; subst h; rw [e]; exact ⟨rfl, rfl, rfl, rfl⟩
    | succ k =>
      have := ih (k := k) (by simpa using h)
      rw [e, List.getElem?_append_right (by simp; omega), List.getElem?_append_right (by simp; omega), List.getElem?_append_right (by simp; omega), List.getElem?_append_right (by simp; omega)]
      simp only [List.length_cons, List.length_nil]
      rw [show (k + 1) * 4 - (0 + 1 + 1 + 1 + 1) = k * 4 from by omega, show (k + 1) * 4 + 1 - (0 + 1 + 1 + 1 + 1) = k * 4 + 1 from by omega,
        show (k + 1) * 4 + 2 - (0 + 1 + 1 + 1 + 1) = k * 4 + 2 from by omega, show (k + 1) * 4 + 3 - (0 + 1 + 1 + 1 + 1) = k * 4 + 3 from by omega]
      exact this
theorem slotCells_at {w : World} {ab sb cap : Nat} {A : Ar} (I : IsAr w ab sb cap A) {j : Nat} {u : Value} (h : (slotCells A.sl)[j]? = some u) : w.cell? ⟨sb, j, none⟩ = some u := by
  have hj : j < A.sl.length * 4 := by rw [← slotCells_length]; exact (List.getElem?_eq_some_iff.1 h).1
  have hs : A.sl[j / 4]? = some A.sl[j / 4] := List.getElem?_eq_getElem (by omega)
  have g := slotCells_get hs
  have S := I.slot _ _ hs
  rcases (by omega : j = j / 4 * 4 ∨ j = j / 4 * 4 + 1 ∨ j = j / 4 * 4 + 2 ∨ j = j / 4 * 4 + 3) with e | e | e | e
  · rw [e, g.1] at h; rw [e, S.use]; exact h
  · rw [e, g.2.1] at h; rw [e, S.v]; exact h
  · rw [e, g.2.2.1] at h; rw [e, S.taken]; exact h
  · rw [e, g.2.2.2] at h; rw [e, S.next]; exact h
theorem slotCells_one (sl : List Sl) : ∀ u ∈ slotCells sl, u.oneCell' = true := by
  intro u hu
  simp only [slotCells, List.mem_flatMap] at hu
  obtain ⟨s, -, hs⟩ := hu
  simp at hs
  rcases hs with rfl | rfl | rfl | rfl <;> rfl

/-- Clone of the slots: a row of its own. -/
def ClonePost (W0 : World) (A : Ar) (e : Ending) (W' : World) : Prop := ∃ g cap, e = .returned (.slice (some ⟨g, 0, none⟩) A.sl.length cap) ∧ W'.ownsRow W0.heap.size 68 4 (.slice (some ⟨g, 0, none⟩) A.sl.length cap) A.sl.length (slotCells A.sl) ∧ Kept (fun _ => False) W0 W'

set_option maxRecDepth 100000 in
set_option maxHeartbeats 400000 in
theorem clone_c (ab sb cap : Nat) (A : Ar) (ok : A.Ok) (w : World) (I : IsAr w ab sb cap A) :
    Calls Try.prog 31 #[.slice (some ⟨sb, 0, none⟩) A.sl.length cap] w (ClonePost w A) := by
  obtain ⟨i, z, hi, hz, hsz, hby, hzs⟩ := el43.info
  have hm := ok.len
  have hnil := fun (w : World) (a : Option Addr) (n c : Nat) => Lib.run_eql_slice_nil (P := Try.prog) w 43 68 a n c 0 0 Try.underlying43
  go_enter Try.func31, Try.ntmps31
  go_wp2_with (at_builtin; refine wpList_append_own _ rfl _ _ 43 rfl w.heap.size 68 i z 4 32 Try.underlying43 hi hz hsz hby hzs (by decide) _ 0 [] rfl ?c0 ⟨sb, 0, none⟩ A.sl.length cap (slotCells A.sl) rfl (slotCells_length _) ?c1 (slotCells_one _) ?c3 ?c4 ?c5 ?_)
  case c0 => exact World.ownsRow_lit w #[] 0 (Nat.le_refl _) (by decide) rfl
  case c1 =>
    intro j u h
    have : (⟨sb, 0, none⟩ : Addr).add j = ⟨sb, j, none⟩ := by unfold Addr.add; split <;> simp_all
    rw [this, World.cell?_alloc_past _ _ _ I.lts]
    exact slotCells_at I h
  case c3 => unfold maxLen; omega
  case c4 => omega
  case c5 => simp
  intro v' w' hown hg hn
  have hex : ∃ g c, v' = .slice (some ⟨g, 0, none⟩) A.sl.length c := by
    rcases hown.2 with ⟨h, -⟩ | ⟨g, c, cur, hv, -⟩
    · exact absurd h hn
    · exact ⟨g, c, hv⟩
  obtain ⟨g, c, rfl⟩ := hex
  have K : Kept (fun _ => False) w w' := ((Kept.refl (fun _ => False) w).alloc _).trans (Kept.of_grown hg) (fun i hi h => by simp [Value.ownBlock] at h; omega)
  clear hg hn
  go_wp2
  go_ret
  exact ⟨g, c, rfl, hown, K⟩

/-- The slots of an arena in a row of their own. -/
theorem slotAt_own {w : World} {base g cap : Nat} {sl : List Sl} (h : w.ownsRow base 68 4 (.slice (some ⟨g, 0, none⟩) sl.length cap) sl.length (slotCells sl)) {k : Nat} {s : Sl} (hs : sl[k]? = some s) : SlAt w g k s := by
  have hl := (List.getElem?_eq_some_iff.1 hs).1
  have q := slotCells_get hs
  exact ⟨(h.cellAt _ (by omega)).trans q.1, (h.cellAt _ (by omega)).trans q.2.1, (h.cellAt _ (by omega)).trans q.2.2.1, (h.cellAt _ (by omega)).trans q.2.2.2⟩

/-- Copy. -/
def CopyPost (W0 : World) (A : Ar) (e : Ending) (W' : World) : Prop := ∃ cb sb cap, e = .returned (.pointer (some ⟨cb, 0, none⟩)) ∧ IsAr W' cb sb cap A ∧ Kept (fun _ => False) W0 W' ∧ W0.heap.size ≤ cb ∧ W0.heap.size ≤ sb

set_option maxRecDepth 100000 in
set_option maxHeartbeats 400000 in
theorem copy_c (ab sb cap : Nat) (A : Ar) (ok : A.Ok) (w : World) (I : IsAr w ab sb cap A) :
    Calls Try.prog 19 #[.pointer (some ⟨ab, 0, none⟩)] w (CopyPost w A) := by
  have c0 := I.made
  have c1 := I.slots
  have c2 := I.freed
  have c3 := I.fresh
  have c4 := I.taken
  have c5 := I.lost
  have la := I.lta
  have I0 : IsAr (w.alloc (.cells #[.bool true, .slice (some ⟨sb, 0, none⟩) A.sl.length cap, .int .i64 A.freed, .int .i64 A.fresh, .int .i64 A.taken, .int .i64 A.lost] 45)) ab sb cap A :=
    I.kept ((Kept.refl (fun _ => False) w).alloc _) (fun h => h) (fun h => h)
  have HC := Lib.hid (clone_c ab sb cap A ok _ I0)
  clear I I0
  go_enter Try.func19, Try.ntmps19
  go_wp2_with fail
  refine HC.out.mono ?_
  rintro e w2 ⟨g, c, rfl, hown, K2⟩
  have hlt : w.heap.size < (w.alloc (.cells #[.bool true, .slice (some ⟨sb, 0, none⟩) A.sl.length cap, .int .i64 A.freed, .int .i64 A.fresh, .int .i64 A.taken, .int .i64 A.lost] 45)).heap.size := by simp
  have e0 : ∀ j, w2.cell? ⟨w.heap.size, j, none⟩ = (#[.bool true, .slice (some ⟨sb, 0, none⟩) A.sl.length cap, .int .i64 A.freed, .int .i64 A.fresh, .int .i64 A.taken, .int .i64 A.lost] : Array Value)[j]? := fun j => by
    rw [K2.cell (a := ⟨w.heap.size, j, none⟩) hlt (fun h => h), World.cell?_alloc_at _ _ _ _ rfl]
  have f0 : ∀ j, w2.frozen? ⟨w.heap.size, j, none⟩ = false := fun j => by
    rw [K2.frozen (a := ⟨w.heap.size, j, none⟩) hlt (fun h => h), World.frozen?_alloc_at _ _ _ _ rfl]
  have d1 := e0 1
  have g1 := f0 1
  have hgb := ownsRow_block hown (b := g) rfl
  rw [World.size_alloc] at hgb
  have FIN : Hid (CopyPost w A (.returned (.pointer (some ⟨w.heap.size, 0, none⟩))) (w2.setCell ⟨w.heap.size, 1, none⟩ (.slice (some ⟨g, 0, none⟩) A.sl.length c))) := by
    refine ⟨w.heap.size, g, c, rfl, ?_, (((Kept.refl (fun _ => False) w).alloc _).trans K2 (fun _ _ h => h)).setCell _ _ (fun h => by simp at h), Nat.le_refl _, by omega⟩
    exact {
      made := (cell_set_off _ _ _ 0 _ (by decide)).trans (e0 0)
      slots := cell_set_at _ (e0 1)
      freed := (cell_set_off _ _ _ 2 _ (by decide)).trans (e0 2)
      fresh := (cell_set_off _ _ _ 3 _ (by decide)).trans (e0 3)
      taken := (cell_set_off _ _ _ 4 _ (by decide)).trans (e0 4)
      lost := (cell_set_off _ _ _ 5 _ (by decide)).trans (e0 5)
      slot := fun k s hs => (slotAt_own hown hs).other _ _ (by simp; omega)
      fza := fun o => (World.frozen?_setCell ..).trans (f0 o)
      fzs := fun o => by
        refine (World.frozen?_setCell ..).trans ?_
        exact hown.frozenAt o
      ne := by omega
      lta := by have := K2.size; simp at this ⊢; omega
      lts := by simpa using hgb.2 }
  clear hown K2 e0 f0 HC hgb
  go_wp2
  go_ret
  exact FIN.out

def CopiesAt (W0 : World) (a : AA) (e : Ending) (W' : World) : Prop := ∃ cb sb cap, e = .returned (.pointer (some ⟨cb, 0, none⟩)) ∧ IsA W' cb sb cap a ∧ Kept (fun _ => False) W0 W' ∧ W0.heap.size ≤ cb ∧ W0.heap.size ≤ sb
theorem copy_a {ab sb cap : Nat} {a : AA} {w : World} (I : IsA w ab sb cap a) : Calls Try.prog 19 #[.pointer (some ⟨ab, 0, none⟩)] w (CopiesAt w a) := by
  obtain ⟨A, i, r⟩ := I
  refine (copy_c ab sb cap A r.ok w i).mono ?_
  rintro e w' ⟨cb, sb', cap', rfl, i', k, h⟩
  exact ⟨cb, sb', cap', rfl, ⟨A, i', r⟩, k, h⟩
end Go.Proofs.Ytokmjjjedljcpaa

/- GeAll: texts for the statements of this seat: contracts of functions, walks, plain laws. Conditions: none. -/
import Derived.WalkKit
import Derived.Deep.Quiet
import Derived.WalkSpells
import Derived.Lib.Hide
import Derived.Deep.MidRow
import Derived.Laws.AppendOwnNone
import Derived.Deep.QuietTactic
import Derived.Maps.OwnSet
import Derived.Maps.RangeWalk
import Derived.ProofKit
import Derived.OpenShut
import Derived.Carry
import Derived.ChangeSlices
import Derived.Deep.SlicePairs
import Derived.Deep.Upon
import Derived.RangeFuncNested
import Derived.RangeFuncBound
import Derived.RangeFuncCalls
import Derived.RangeFuncLeaves
import Derived.RangeFuncBox
import Derived.Shelf.Abstract
import Derived.Shelf.RegionOpen
import Derived.OwnWalkIn
import Derived.TacticsInMore
import Derived.LoopNIn
import Derived.LoopIn
import Derived.Maps.AppendAt
import Derived.WalkLawsBesides
set_option linter.all false
/- The plain model of package arena, and how an arena lies in memory. -/
namespace Go.Proofs.Ytfhlllmicobafaa
open Go.RowKit

/-- A slot. -/
structure Sl where
  use : Int
  v : Int
  taken : Bool
  next : Int

/-- An arena. -/
structure Ar where
  sl : List Sl
  freed : Int
  fresh : Int
  taken : Int
  lost : Int

namespace Ar
/-- A new arena. -/
def empty (n : Nat) : Ar := { sl := List.replicate n { use := 0, v := 0, taken := false, next := 0 }, freed := -1, fresh := 0, taken := 0, lost := 0 }
/-- The slot that a handle names. -/
def find (A : Ar) (h : Int) : Option (Nat × Sl) :=
  if h < 4096 then none else
  match A.sl[(h % 4096).toNat]? with
  | some s => if s.taken = true ∧ 4096 * s.use + h % 4096 = h then some ((h % 4096).toNat, s) else none
  | none => none

/-- What Put does with the slot k, once it is chosen. -/
def fill (A : Ar) (k : Nat) (s : Sl) (v : Int) : Ar :=
  { A with sl := A.sl.set k { use := s.use + 1, v := v, taken := true, next := -1 }, taken := A.taken + 1 }

/-- Put: the arena behind it, the handle, the error. -/
def put (A : Ar) (v : Int) : Ar × Int × Int :=
  if 0 ≤ A.freed then
    match A.sl[A.freed.toNat]? with
    | some s => ({ A.fill A.freed.toNat s v with freed := s.next }, 4096 * (s.use + 1) + A.freed, 0)
    | none => (A, 0, 4)
  else
    match A.sl[A.fresh.toNat]? with
    | some s => ({ A.fill A.fresh.toNat s v with fresh := A.fresh + 1 }, 4096 * (s.use + 1) + A.fresh, 0)
    | none => (A, 0, 4)
/-- Get: the number, and whether there is one. -/
def get (A : Ar) (h : Int) : Int × Bool :=
  match A.find h with
  | some (_, s) => (s.v, true)
  | none => (0, false)
/-- Free: the arena behind it, the error. -/
def free (A : Ar) (h : Int) : Ar × Int :=
  match A.find h with
  | some (k, s) =>
    if s.use = 2147483648 then ({ A with sl := A.sl.set k { s with taken := false }, taken := A.taken - 1, lost := A.lost + 1 }, 0)
    else ({ A with sl := A.sl.set k { s with taken := false, next := A.freed }, taken := A.taken - 1, freed := k }, 0)
  | none => (A, 5)
def room (A : Ar) : Int := A.sl.length - A.taken - A.lost
theorem find_spec {A : Ar} {h : Int} {k : Nat} {s : Sl} (hf : A.find h = some (k, s)) : 4096 ≤ h ∧ (k : Int) = h % 4096 ∧ A.sl[k]? = some s ∧ s.taken = true ∧ 4096 * s.use + k = h := by
  unfold find at hf
  split at hf
  · simp at hf
  · rename_i h0
    split at hf
    · rename_i s' hs
      split at hf
      · rename_i hc
        simp only [Option.some.injEq, Prod.mk.injEq] at hf
        obtain ⟨rfl, rfl⟩ := hf
        exact ⟨by omega, by omega, hs, hc.1, by omega⟩
      · simp at hf
    · simp at hf
theorem find_mk {A : Ar} {h : Int} {k : Nat} {s : Sl} (h0 : 4096 ≤ h) (hk : (k : Int) = h % 4096) (hs : A.sl[k]? = some s) (ht : s.taken = true) (hu : 4096 * s.use + k = h) : A.find h = some (k, s) := by
  have e : (h % 4096).toNat = k := by omega
  unfold find
  rw [if_neg (by omega), e, hs]
  simp only [ht, true_and]
  rw [if_pos (by omega)]

/-- Bounds that keep the numbers of an arena from wrapping. -/
structure Ok (A : Ar) : Prop where
  len : A.sl.length ≤ 4096
  fd0 : -1 ≤ A.freed
  fd1 : A.freed < A.sl.length
  fr0 : 0 ≤ A.fresh
  fr1 : A.fresh ≤ A.sl.length
  use : ∀ s ∈ A.sl, 0 ≤ s.use ∧ s.use ≤ 4294967296
  next : ∀ s ∈ A.sl, -1 ≤ s.next ∧ s.next < A.sl.length
  tk : 0 ≤ A.taken ∧ A.taken ≤ 4294967296
  lo : 0 ≤ A.lost ∧ A.lost ≤ 4294967296
end Ar

/-- The cells of a slot. -/
structure SlAt (w : World) (sb k : Nat) (s : Sl) : Prop where
  use : w.cell? ⟨sb, k * 4, none⟩ = some (.int .i64 s.use)
  v : w.cell? ⟨sb, k * 4 + 1, none⟩ = some (.int .i64 s.v)
  taken : w.cell? ⟨sb, k * 4 + 2, none⟩ = some (.bool s.taken)
  next : w.cell? ⟨sb, k * 4 + 3, none⟩ = some (.int .i64 s.next)

/-- An arena in memory: its struct in block ab, its slots in block sb. -/
structure IsAr (w : World) (ab sb cap : Nat) (A : Ar) : Prop where
  made : w.cell? ⟨ab, 0, none⟩ = some (.bool true)
  slots : w.cell? ⟨ab, 1, none⟩ = some (.slice (some ⟨sb, 0, none⟩) A.sl.length cap)
  freed : w.cell? ⟨ab, 2, none⟩ = some (.int .i64 A.freed)
  fresh : w.cell? ⟨ab, 3, none⟩ = some (.int .i64 A.fresh)
  taken : w.cell? ⟨ab, 4, none⟩ = some (.int .i64 A.taken)
  lost : w.cell? ⟨ab, 5, none⟩ = some (.int .i64 A.lost)
  slot : ∀ k s, A.sl[k]? = some s → SlAt w sb k s
  fza : ∀ o, w.frozen? ⟨ab, o, none⟩ = false
  fzs : ∀ o, w.frozen? ⟨sb, o, none⟩ = false
  ne : ab ≠ sb
  lta : ab < w.heap.size
  lts : sb < w.heap.size

/-! ### Worlds -/

theorem cell_set (w : World) (a b : Addr) (v : Value) (h : (w.cell? a).isSome = true) : (w.setCell a v).cell? b = if b = a then some v else w.cell? b := by
  by_cases e : b = a
  · subst e
    obtain ⟨u, hu⟩ := Option.isSome_iff_exists.1 h
    rw [if_pos rfl]; exact World.cell?_setCell_same w b v hu
  · rw [if_neg e, World.cell?_setCell_other (h := fun q => e q.symm)]

theorem cell_set_blk (w : World) (a b : Addr) (v : Value) (h : b.block ≠ a.block) : (w.setCell a v).cell? b = w.cell? b :=
  World.cell?_setCell_other w a b v (fun q => h (by rw [q]))

/-- All blocks of w but those of S are in w' as they were. -/
structure Kept (S : Nat → Prop) (w w' : World) : Prop where
  os : w'.os = w.os
  tape : w'.tape = w.tape
  output : w'.output = w.output
  size : w.heap.size ≤ w'.heap.size
  block : ∀ k, k < w.heap.size → ¬ S k → w'.heap[k]? = w.heap[k]?

namespace Kept
variable {S T : Nat → Prop} {w w' w'' : World}
theorem refl (S : Nat → Prop) (w : World) : Kept S w w := ⟨rfl, rfl, rfl, Nat.le_refl _, fun _ _ _ => rfl⟩
theorem trans (h : Kept S w w') (k : Kept T w' w'') (hT : ∀ i, i < w.heap.size → T i → S i) : Kept S w w'' :=
  ⟨k.os.trans h.os, k.tape.trans h.tape, k.output.trans h.output, Nat.le_trans h.size k.size,
   fun i hi hn => (k.block i (Nat.lt_of_lt_of_le hi h.size) (fun t => hn (hT i hi t))).trans (h.block i hi hn)⟩
theorem mono (h : Kept S w w') (hS : ∀ i, i < w.heap.size → S i → T i) : Kept T w w' :=
  ⟨h.os, h.tape, h.output, h.size, fun i hi hn => h.block i hi (fun s => hn (hS i hi s))⟩
theorem drew (h : Kept S w w') : Kept S w w'.drew := ⟨h.os, h.tape, h.output, h.size, h.block⟩
theorem drewN (h : Kept S w w') (n : Nat) : Kept S w (w'.drewN n) := ⟨h.os, h.tape, h.output, h.size, h.block⟩
theorem alloc (h : Kept S w w') (o : Obj) : Kept S w (w'.alloc o) :=
  ⟨h.os, h.tape, h.output, by have := h.size; simp; omega, fun i hi hn => by
    rw [Below.heap_alloc _ _ _ (Nat.lt_of_lt_of_le hi h.size)]; exact h.block i hi hn⟩
theorem setCell (h : Kept S w w') (a : Addr) (v : Value) (ha : a.block < w.heap.size → S a.block) : Kept S w (w'.setCell a v) :=
  ⟨h.os, h.tape, h.output, by have := h.size; simp; omega, fun i hi hn => by
    rw [Below.heap_setCell _ _ _ _ (fun e => hn (by subst e; exact ha hi))]; exact h.block i hi hn⟩
theorem cell (h : Kept S w w') {a : Addr} (hi : a.block < w.heap.size) (hn : ¬ S a.block) : w'.cell? a = w.cell? a :=
  World.cell?_of_block (h.block _ hi hn)
theorem frozen (h : Kept S w w') {a : Addr} (hi : a.block < w.heap.size) (hn : ¬ S a.block) : w'.frozen? a = w.frozen? a :=
  World.frozen?_of_block (h.block _ hi hn)
theorem below (h : Kept S w w') {B : Nat} (hB : B ≤ w.heap.size) (hS : ∀ i, i < B → ¬ S i) : Below B w w' :=
  ⟨h.os, h.tape, h.output, h.size, fun i hi => h.block i (Nat.lt_of_lt_of_le hi hB) (hS i hi)⟩
end Kept

/-- An arena in blocks that nobody has touched. -/
theorem IsAr.kept {S : Nat → Prop} {w w' : World} {ab sb cap : Nat} {A : Ar} (I : IsAr w ab sb cap A) (h : Kept S w w') (ha : ¬ S ab) (hs : ¬ S sb) : IsAr w' ab sb cap A where
  made := (h.cell (a := ⟨ab, 0, none⟩) I.lta ha).trans I.made
  slots := (h.cell (a := ⟨ab, 1, none⟩) I.lta ha).trans I.slots
  freed := (h.cell (a := ⟨ab, 2, none⟩) I.lta ha).trans I.freed
  fresh := (h.cell (a := ⟨ab, 3, none⟩) I.lta ha).trans I.fresh
  taken := (h.cell (a := ⟨ab, 4, none⟩) I.lta ha).trans I.taken
  lost := (h.cell (a := ⟨ab, 5, none⟩) I.lta ha).trans I.lost
  slot := fun k s hk =>
    have c := I.slot k s hk
    ⟨(h.cell (a := ⟨sb, k * 4, none⟩) I.lts hs).trans c.use, (h.cell (a := ⟨sb, k * 4 + 1, none⟩) I.lts hs).trans c.v,
     (h.cell (a := ⟨sb, k * 4 + 2, none⟩) I.lts hs).trans c.taken, (h.cell (a := ⟨sb, k * 4 + 3, none⟩) I.lts hs).trans c.next⟩
  fza := fun o => (h.frozen (a := ⟨ab, o, none⟩) I.lta ha).trans (I.fza o)
  fzs := fun o => (h.frozen (a := ⟨sb, o, none⟩) I.lts hs).trans (I.fzs o)
  ne := I.ne
  lta := Nat.lt_of_lt_of_le I.lta h.size
  lts := Nat.lt_of_lt_of_le I.lts h.size

/-! ### One store at a time -/

theorem IsAr.drew {w : World} {ab sb cap : Nat} {A : Ar} (I : IsAr w ab sb cap A) : IsAr w.drew ab sb cap A :=
  ⟨I.made, I.slots, I.freed, I.fresh, I.taken, I.lost, fun k s h => ⟨(I.slot k s h).use, (I.slot k s h).v, (I.slot k s h).taken, (I.slot k s h).next⟩, I.fza, I.fzs, I.ne, I.lta, I.lts⟩

theorem IsAr.drewN {w : World} {ab sb cap : Nat} {A : Ar} (I : IsAr w ab sb cap A) (n : Nat) : IsAr (w.drewN n) ab sb cap A :=
  ⟨I.made, I.slots, I.freed, I.fresh, I.taken, I.lost, fun k s h => ⟨(I.slot k s h).use, (I.slot k s h).v, (I.slot k s h).taken, (I.slot k s h).next⟩, I.fza, I.fzs, I.ne, I.lta, I.lts⟩

theorem SlAt.other {w : World} {sb k : Nat} {s : Sl} (S : SlAt w sb k s) (a : Addr) (v : Value) (h : sb ≠ a.block) : SlAt (w.setCell a v) sb k s :=
  ⟨(cell_set_blk w a ⟨sb, _, none⟩ v h).trans S.use, (cell_set_blk w a ⟨sb, _, none⟩ v h).trans S.v, (cell_set_blk w a ⟨sb, _, none⟩ v h).trans S.taken, (cell_set_blk w a ⟨sb, _, none⟩ v h).trans S.next⟩

/-- A cell in the same block, at another offset. -/
theorem cell_set_off (w : World) (b o o' : Nat) (v : Value) (h : o' ≠ o) : (w.setCell ⟨b, o, none⟩ v).cell? ⟨b, o', none⟩ = w.cell? ⟨b, o', none⟩ :=
  World.cell?_setCell_other w ⟨b, o, none⟩ ⟨b, o', none⟩ v (fun q => h (by injection q with _ q2; exact q2.symm))
theorem cell_set_at {w : World} {a : Addr} {u : Value} (v : Value) (h : w.cell? a = some u) : (w.setCell a v).cell? a = some v := World.cell?_setCell_same w a v h

theorem IsAr.setFreed {w : World} {ab sb cap : Nat} {A : Ar} (I : IsAr w ab sb cap A) (x : Int) : IsAr (w.setCell ⟨ab, 2, none⟩ (.int .i64 x)) ab sb cap { A with freed := x } where
  made := (cell_set_off w ab 2 0 _ (by decide)).trans I.made
  slots := (cell_set_off w ab 2 1 _ (by decide)).trans I.slots
  freed := cell_set_at _ I.freed
  fresh := (cell_set_off w ab 2 3 _ (by decide)).trans I.fresh
  taken := (cell_set_off w ab 2 4 _ (by decide)).trans I.taken
  lost := (cell_set_off w ab 2 5 _ (by decide)).trans I.lost
  slot := fun k s h => (I.slot k s h).other _ _ I.ne.symm
  fza := fun o => (World.frozen?_setCell ..).trans (I.fza o)
  fzs := fun o => (World.frozen?_setCell ..).trans (I.fzs o)
  ne := I.ne
  lta := by simpa using I.lta
  lts := by simpa using I.lts

theorem IsAr.setFresh {w : World} {ab sb cap : Nat} {A : Ar} (I : IsAr w ab sb cap A) (x : Int) : IsAr (w.setCell ⟨ab, 3, none⟩ (.int .i64 x)) ab sb cap { A with fresh := x } where
  made := (cell_set_off w ab 3 0 _ (by decide)).trans I.made
  slots := (cell_set_off w ab 3 1 _ (by decide)).trans I.slots
  freed := (cell_set_off w ab 3 2 _ (by decide)).trans I.freed
  fresh := cell_set_at _ I.fresh
  taken := (cell_set_off w ab 3 4 _ (by decide)).trans I.taken
  lost := (cell_set_off w ab 3 5 _ (by decide)).trans I.lost
  slot := fun k s h => (I.slot k s h).other _ _ I.ne.symm
  fza := fun o => (World.frozen?_setCell ..).trans (I.fza o)
  fzs := fun o => (World.frozen?_setCell ..).trans (I.fzs o)
  ne := I.ne
  lta := by simpa using I.lta
  lts := by simpa using I.lts

theorem IsAr.setTaken {w : World} {ab sb cap : Nat} {A : Ar} (I : IsAr w ab sb cap A) (x : Int) : IsAr (w.setCell ⟨ab, 4, none⟩ (.int .i64 x)) ab sb cap { A with taken := x } where
  made := (cell_set_off w ab 4 0 _ (by decide)).trans I.made
  slots := (cell_set_off w ab 4 1 _ (by decide)).trans I.slots
  freed := (cell_set_off w ab 4 2 _ (by decide)).trans I.freed
  fresh := (cell_set_off w ab 4 3 _ (by decide)).trans I.fresh
  taken := cell_set_at _ I.taken
  lost := (cell_set_off w ab 4 5 _ (by decide)).trans I.lost
  slot := fun k s h => (I.slot k s h).other _ _ I.ne.symm
  fza := fun o => (World.frozen?_setCell ..).trans (I.fza o)
  fzs := fun o => (World.frozen?_setCell ..).trans (I.fzs o)
  ne := I.ne
  lta := by simpa using I.lta
  lts := by simpa using I.lts

theorem IsAr.setLost {w : World} {ab sb cap : Nat} {A : Ar} (I : IsAr w ab sb cap A) (x : Int) : IsAr (w.setCell ⟨ab, 5, none⟩ (.int .i64 x)) ab sb cap { A with lost := x } where
  made := (cell_set_off w ab 5 0 _ (by decide)).trans I.made
  slots := (cell_set_off w ab 5 1 _ (by decide)).trans I.slots
  freed := (cell_set_off w ab 5 2 _ (by decide)).trans I.freed
  fresh := (cell_set_off w ab 5 3 _ (by decide)).trans I.fresh
  taken := (cell_set_off w ab 5 4 _ (by decide)).trans I.taken
  lost := cell_set_at _ I.lost
  slot := fun k s h => (I.slot k s h).other _ _ I.ne.symm
  fza := fun o => (World.frozen?_setCell ..).trans (I.fza o)
  fzs := fun o => (World.frozen?_setCell ..).trans (I.fzs o)
  ne := I.ne
  lta := by simpa using I.lta
  lts := by simpa using I.lts

/-- One cell of a slot. -/
theorem IsAr.setSlot {w : World} {ab sb cap : Nat} {A : Ar} (I : IsAr w ab sb cap A) {k : Nat} {s : Sl} (hs : A.sl[k]? = some s) (t : Sl) (j : Nat) (v : Value)
    (hj : j < 4) (h0 : j = 0 ∧ t = { s with use := t.use } ∧ v = .int .i64 t.use ∨ j = 1 ∧ t = { s with v := t.v } ∧ v = .int .i64 t.v ∨
      j = 2 ∧ t = { s with taken := t.taken } ∧ v = .bool t.taken ∨ j = 3 ∧ t = { s with next := t.next } ∧ v = .int .i64 t.next) :
    IsAr (w.setCell ⟨sb, k * 4 + j, none⟩ v) ab sb cap { A with sl := A.sl.set k t } where
  made := (cell_set_blk w _ ⟨ab, 0, none⟩ _ I.ne).trans I.made
  slots := by rw [List.length_set]; exact (cell_set_blk w _ ⟨ab, 1, none⟩ _ I.ne).trans I.slots
  freed := (cell_set_blk w _ ⟨ab, 2, none⟩ _ I.ne).trans I.freed
  fresh := (cell_set_blk w _ ⟨ab, 3, none⟩ _ I.ne).trans I.fresh
  taken := (cell_set_blk w _ ⟨ab, 4, none⟩ _ I.ne).trans I.taken
  lost := (cell_set_blk w _ ⟨ab, 5, none⟩ _ I.ne).trans I.lost
  slot := by
    intro k' s' h
    have S := I.slot k s hs
    by_cases e : k' = k
    · subst e
      have hl : k' < A.sl.length := (List.getElem?_eq_some_iff.1 hs).1
      simp only [List.getElem?_set_self hl] at h
      obtain rfl := Option.some.inj h
      rcases h0 with ⟨rfl, ht, rfl⟩ | ⟨rfl, ht, rfl⟩ | ⟨rfl, ht, rfl⟩ | ⟨rfl, ht, rfl⟩
      · have q1 : t.v = s.v := by rw [ht]
        have q2 : t.taken = s.taken := by rw [ht]
        have q3 : t.next = s.next := by rw [ht]
        exact ⟨cell_set_at _ S.use, by rw [q1]; exact (cell_set_off w sb _ _ _ (by omega)).trans S.v, by rw [q2]; exact (cell_set_off w sb _ _ _ (by omega)).trans S.taken, by rw [q3]; exact (cell_set_off w sb _ _ _ (by omega)).trans S.next⟩
      · have q1 : t.use = s.use := by rw [ht]
        have q2 : t.taken = s.taken := by rw [ht]
        have q3 : t.next = s.next := by rw [ht]
        exact ⟨by rw [q1]; exact (cell_set_off w sb _ _ _ (by omega)).trans S.use, cell_set_at _ S.v, by rw [q2]; exact (cell_set_off w sb _ _ _ (by omega)).trans S.taken, by rw [q3]; exact (cell_set_off w sb _ _ _ (by omega)).trans S.next⟩
      · have q1 : t.use = s.use := by rw [ht]
        have q2 : t.v = s.v := by rw [ht]
        have q3 : t.next = s.next := by rw [ht]
        exact ⟨by rw [q1]; exact (cell_set_off w sb _ _ _ (by omega)).trans S.use, by rw [q2]; exact (cell_set_off w sb _ _ _ (by omega)).trans S.v, cell_set_at _ S.taken, by rw [q3]; exact (cell_set_off w sb _ _ _ (by omega)).trans S.next⟩
      · have q1 : t.use = s.use := by rw [ht]
        have q2 : t.v = s.v := by rw [ht]
        have q3 : t.taken = s.taken := by rw [ht]
        exact ⟨by rw [q1]; exact (cell_set_off w sb _ _ _ (by omega)).trans S.use, by rw [q2]; exact (cell_set_off w sb _ _ _ (by omega)).trans S.v, by rw [q3]; exact (cell_set_off w sb _ _ _ (by omega)).trans S.taken, cell_set_at _ S.next⟩
    · simp only [List.getElem?_set_ne (Ne.symm e)] at h
      have S' := I.slot k' s' h
      exact ⟨(cell_set_off w sb _ _ _ (by omega)).trans S'.use, (cell_set_off w sb _ _ _ (by omega)).trans S'.v, (cell_set_off w sb _ _ _ (by omega)).trans S'.taken, (cell_set_off w sb _ _ _ (by omega)).trans S'.next⟩
  fza := fun o => (World.frozen?_setCell ..).trans (I.fza o)
  fzs := fun o => (World.frozen?_setCell ..).trans (I.fzs o)
  ne := I.ne
  lta := by simpa using I.lta
  lts := by simpa using I.lts

theorem IsAr.setUse {w : World} {ab sb cap : Nat} {A : Ar} (I : IsAr w ab sb cap A) {k : Nat} {s : Sl} (hs : A.sl[k]? = some s) (x : Int) :
    IsAr (w.setCell ⟨sb, k * 4, none⟩ (.int .i64 x)) ab sb cap { A with sl := A.sl.set k { s with use := x } } :=
  I.setSlot hs { s with use := x } 0 _ (by decide) (.inl ⟨rfl, rfl, rfl⟩)
theorem IsAr.setV {w : World} {ab sb cap : Nat} {A : Ar} (I : IsAr w ab sb cap A) {k : Nat} {s : Sl} (hs : A.sl[k]? = some s) (x : Int) :
    IsAr (w.setCell ⟨sb, k * 4 + 1, none⟩ (.int .i64 x)) ab sb cap { A with sl := A.sl.set k { s with v := x } } :=
  I.setSlot hs { s with v := x } 1 _ (by decide) (.inr (.inl ⟨rfl, rfl, rfl⟩))
theorem IsAr.setTk {w : World} {ab sb cap : Nat} {A : Ar} (I : IsAr w ab sb cap A) {k : Nat} {s : Sl} (hs : A.sl[k]? = some s) (x : Bool) :
    IsAr (w.setCell ⟨sb, k * 4 + 2, none⟩ (.bool x)) ab sb cap { A with sl := A.sl.set k { s with taken := x } } :=
  I.setSlot hs { s with taken := x } 2 _ (by decide) (.inr (.inr (.inl ⟨rfl, rfl, rfl⟩)))
theorem IsAr.setNext {w : World} {ab sb cap : Nat} {A : Ar} (I : IsAr w ab sb cap A) {k : Nat} {s : Sl} (hs : A.sl[k]? = some s) (x : Int) :
    IsAr (w.setCell ⟨sb, k * 4 + 3, none⟩ (.int .i64 x)) ab sb cap { A with sl := A.sl.set k { s with next := x } } :=
  I.setSlot hs { s with next := x } 3 _ (by decide) (.inr (.inr (.inr ⟨rfl, rfl, rfl⟩)))

theorem set_at {l : List Sl} {k : Nat} {s : Sl} (h : l[k]? = some s) (t : Sl) : (l.set k t)[k]? = some t := by
  rw [List.getElem?_set_self (List.getElem?_eq_some_iff.1 h).1]

/-- A slot is filled: its four cells are stored. -/
theorem IsAr.filled {w : World} {ab sb cap : Nat} {A : Ar} (I : IsAr w ab sb cap A) {k : Nat} {s : Sl} (hs : A.sl[k]? = some s) (u v n : Int) (b : Bool) :
    IsAr ((((w.setCell ⟨sb, k * 4, none⟩ (.int .i64 u)).setCell ⟨sb, k * 4 + 1, none⟩ (.int .i64 v)).setCell ⟨sb, k * 4 + 2, none⟩ (.bool b)).setCell ⟨sb, k * 4 + 3, none⟩ (.int .i64 n)) ab sb cap
      { A with sl := A.sl.set k { use := u, v := v, taken := b, next := n } } := by
  have J := (((I.setUse hs u).setV (set_at hs _) v).setTk (set_at (set_at hs _) _) b).setNext (set_at (set_at (set_at hs _) _) _) n
  simpa using J
theorem Kept.filled {S : Nat → Prop} {w w' : World} (h : Kept S w w') (sb o1 o2 o3 o4 : Nat) (v1 v2 v3 v4 : Value) (hS : S sb) :
    Kept S w ((((w'.setCell ⟨sb, o1, none⟩ v1).setCell ⟨sb, o2, none⟩ v2).setCell ⟨sb, o3, none⟩ v3).setCell ⟨sb, o4, none⟩ v4) :=
  (((h.setCell ⟨sb, o1, none⟩ v1 (fun _ => hS)).setCell ⟨sb, o2, none⟩ v2 (fun _ => hS)).setCell ⟨sb, o3, none⟩ v3 (fun _ => hS)).setCell ⟨sb, o4, none⟩ v4 (fun _ => hS)
end Go.Proofs.Ytfhlllmicobafaa
/- Small laws for walks: a slice that the call owns, one element appended. -/
namespace Go.Proofs.Ytfhlllmicobafaa
open Go.RowKit

/-- What the walk needs of a slice's type: t is a slice of e, an element has size cells and so many bytes. -/
structure ElemOk (P : Program) (t e size bytes : Nat) : Prop where
  under : P.underlying t = some (.slice e)
  info : ∃ (i : TypeInfo) (z : Value), P.info? e = some i ∧ i.zero = some z ∧ i.size = size ∧ i.bytes = bytes ∧ z.cells.size = size
  pos : 0 < size

theorem ElemOk.mk' {P : Program} {t e size bytes : Nat} {z : Value} (hu : P.underlying t = some (.slice e)) (h : (P.info? e).map (fun i => (i.zero, i.size, i.bytes)) = some (some z, size, bytes))
    (hz : z.cells.size = size) (hp : 0 < size) : ElemOk P t e size bytes := by
  obtain ⟨i, hi, h1, h2, h3⟩ := info_parts h
  exact ⟨hu, ⟨i, z, hi, h1, h2, h3, hz⟩, hp⟩

theorem Kept.of_grown {w w' : World} {row : Option Nat} (h : w.grownBy w' row) : Kept (fun b => row = some b) w w' :=
  ⟨h.os, h.tape, h.output, h.size, fun k hk hn => h.block k hk (fun e => hn e.symm)⟩

/-- One element, just built, is appended to a slice that the call owns. -/
theorem wpList_app1 {P : Program} {t e size bytes : Nat} (E : ElemOk P t e size bytes) {ops : Array Oper} {rest : List Oper} {o : Oper} {a : Act} {Q : Exit → Act → World → Prop} (hgd : o.guard = none) (s x : Operand)
    (ho : o.op = .call { callee := .builtin .append, args := #[s, x], argTypes := #[t, t] }) {W : World} {news : List Value} (base : Nat) (v : Value) (n : Nat) (xs : List Value) (hs : a.eval s = v)
    (hown : W.ownsRow base e size v n xs) (hx : a.eval x = .slice (some ⟨W.heap.size, 0, none⟩) 1 1) (hl : news.length = size) (h1 : ∀ u ∈ news, u.oneCell' = true)
    (h63 : n + 1 ≤ maxLen) (hbytes : (n + 1) * bytes ≤ 140737488355328) (hbase : base ≤ W.heap.size)
    (h : ∀ g cap w', w'.ownsRow base e size (.slice (some ⟨g, 0, none⟩) (n + 1) cap) (n + 1) (xs ++ news) → Kept (fun b => v.ownBlock = some b) W w' → wpList P ops Q rest (a.put o.dst (.slice (some ⟨g, 0, none⟩) (n + 1) cap)) w') :
    wpList P ops Q (o :: rest) a (W.alloc (.cells news.toArray e)) := by
  obtain ⟨i, z, hi, hz, hsz, hby, hzs⟩ := E.info
  refine wpList_append_own _ hgd s x t ho base e i z size bytes E.under hi hz hsz hby hzs E.pos v n xs hs (hown.alloc _) ⟨W.heap.size, 0, none⟩ 1 1 news hx (by omega) ?_ h1 h63 hbytes (by simp; omega) ?_
  · intro j u hj
    have : (⟨W.heap.size, 0, none⟩ : Addr).add j = ⟨W.heap.size, j, none⟩ := by unfold Addr.add; split <;> simp_all
    rw [this, World.cell?_alloc_at _ _ _ _ rfl]
    simpa using hj
  · intro v' w' hown' hg hnil
    have hex : ∃ g cap, v' = .slice (some ⟨g, 0, none⟩) (n + 1) cap := by
      rcases hown'.2 with ⟨-, h0⟩ | ⟨g, cap, cur, hv, -⟩
      · omega
      · exact ⟨g, cap, hv⟩
    obtain ⟨g, cap, rfl⟩ := hex
    refine h g cap w' hown' ?_
    exact ((Kept.refl (fun b => v.ownBlock = some b) W).alloc _).trans (Kept.of_grown hg) (fun i _ hi => hi)

theorem ownsRow_block {w : World} {base e size : Nat} {v : Value} {n : Nat} {xs : List Value} (h : w.ownsRow base e size v n xs) {b : Nat} (hb : v.ownBlock = some b) : base ≤ b ∧ b < w.heap.size := by
  rcases h.2 with ⟨rfl, -⟩ | ⟨g, cap, cur, rfl, hg, hh, -⟩
  · simp [Value.ownBlock] at hb
  · simp [Value.ownBlock] at hb
    subst hb
    exact ⟨hg, (Array.getElem?_eq_some_iff.1 hh).1⟩

/-- An owned row in a world in which its block is as it was. -/
theorem ownsRow_kept {S : Nat → Prop} {w w' : World} {base e size : Nat} {v : Value} {n : Nat} {xs : List Value} (h : w.ownsRow base e size v n xs) (K : Kept S w w') (hS : ∀ b, base ≤ b → v.ownBlock = some b → ¬ S b) :
    w'.ownsRow base e size v n xs := by
  obtain ⟨h1, h2⟩ := h
  refine ⟨h1, ?_⟩
  rcases h2 with h2 | ⟨g, cap, cur, rfl, hg, hh, r⟩
  · exact .inl h2
  · exact .inr ⟨g, cap, cur, rfl, hg, (K.block g (Array.getElem?_eq_some_iff.1 hh).1 (hS g hg rfl)).trans hh, r⟩

/-- An owned row that is not empty is no nil slice. -/
theorem ownsRow_pos {w : World} {base e size : Nat} {v : Value} {n : Nat} {xs : List Value} (h : w.ownsRow base e size v n xs) (hn : 0 < n) : ∃ g cap, v = .slice (some ⟨g, 0, none⟩) n cap ∧ base ≤ g := by
  rcases h.2 with ⟨-, h0⟩ | ⟨g, cap, cur, hv, hg, -⟩
  · omega
  · exact ⟨g, cap, hv, hg⟩
theorem ownsRow_base {w : World} {base base' e size : Nat} {v : Value} {n : Nat} {xs : List Value} (h : w.ownsRow base e size v n xs) (hb : base' ≤ base) : w.ownsRow base' e size v n xs := by
  obtain ⟨h1, h2⟩ := h
  refine ⟨h1, ?_⟩
  rcases h2 with h2 | ⟨g, cap, cur, hv, hg, r⟩
  · exact .inl h2
  · exact .inr ⟨g, cap, cur, hv, by omega, r⟩
theorem ownsRow_set {w : World} {base e size : Nat} {v : Value} {n : Nat} {xs : List Value} (h : w.ownsRow base e size v n xs) (a : Addr) (u : Value) (ha : a.block < base) : (w.setCell a u).ownsRow base e size v n xs :=
  ownsRow_setCell_below h ha u
end Go.Proofs.Ytfhlllmicobafaa
/- A slice that reads as numbers of one kind. -/

namespace Go.Proofs.Ytfhlllmicobafaa
open Go.RowKit

/-- The slice v reads as the numbers xs (of the kind k). -/
def IntsK (k : IntKind) (w : World) (v : Value) (xs : List Int) : Prop :=
  (∃ a cap, v = .slice a 0 cap ∧ xs = []) ∨ ∃ b off cap, v = .slice (some ⟨b, off, none⟩) xs.length cap ∧ b < w.heap.size ∧ ∀ j x, xs[j]? = some x → w.cell? ⟨b, off + j, none⟩ = some (.int k x)
abbrev Ints := IntsK .i64
variable {k : IntKind}
theorem IntsK.len {w : World} {v : Value} {xs : List Int} (h : IntsK k w v xs) : ∃ a cap, v = .slice a xs.length cap := by
  rcases h with ⟨a, cap, rfl, rfl⟩ | ⟨b, off, cap, rfl, -⟩
  · exact ⟨a, cap, rfl⟩
  · exact ⟨_, cap, rfl⟩
theorem IntsK.pos {w : World} {v : Value} {xs : List Int} (h : IntsK k w v xs) (hp : 0 < xs.length) : ∃ b off cap, v = .slice (some ⟨b, off, none⟩) xs.length cap ∧ b < w.heap.size ∧ ∀ j x, xs[j]? = some x → w.cell? ⟨b, off + j, none⟩ = some (.int k x) := by
  rcases h with ⟨a, cap, rfl, rfl⟩ | h
  · simp at hp
  · exact h
theorem IntsK.of_own {w : World} {base e : Nat} {v : Value} {xs : List Int} (h : w.ownsRow base e 1 v xs.length (xs.map (Value.int k))) : IntsK k w v xs := by
  rcases h.2 with ⟨rfl, h0⟩ | ⟨g, cap, cur, rfl, hg, hh, -⟩
  · exact .inl ⟨none, 0, rfl, List.eq_nil_of_length_eq_zero h0⟩
  · refine .inr ⟨g, 0, cap, rfl, (Array.getElem?_eq_some_iff.1 hh).1, fun j x hx => ?_⟩
    rw [Nat.zero_add, h.cellAt j (by have := (List.getElem?_eq_some_iff.1 hx).1; omega), List.getElem?_map, hx]; rfl
theorem IntsK.kept {S : Nat → Prop} {w w' : World} {v : Value} {xs : List Int} (h : IntsK k w v xs) (K : Kept S w w') (hS : ∀ b, v.ownBlock = some b → 0 < xs.length → ¬ S b) : IntsK k w' v xs := by
  rcases h with h | ⟨b, off, cap, rfl, hb, hc⟩
  · exact .inl h
  · refine .inr ⟨b, off, cap, rfl, Nat.lt_of_lt_of_le hb K.size, fun j x hx => (K.cell (a := ⟨b, off + j, none⟩) hb (hS b rfl (by have := (List.getElem?_eq_some_iff.1 hx).1; omega))).trans (hc j x hx)⟩
theorem IntsK.same {w w' : World} {v : Value} {xs : List Int} (h : IntsK k w v xs) (K : Kept (fun _ => False) w w') : IntsK k w' v xs := h.kept K (fun _ _ _ h => h)
theorem IntsK.block {w : World} {v : Value} {xs : List Int} (h : IntsK k w v xs) {b : Nat} (hb : v.ownBlock = some b) (hx : 0 < xs.length) : b < w.heap.size := by
  obtain ⟨b', off, cap, rfl, hb', -⟩ := h.pos hx
  simp [Value.ownBlock] at hb
  omega
/-- A block of numbers. -/
theorem IntsK.lit {w : World} {b n cap : Nat} {cs : Array Value} {xs : List Int} (hb : b < w.heap.size) (hn : xs.length = n) (hc : ∀ j, w.cell? ⟨b, j, none⟩ = cs[j]?) (hcs : cs.toList = xs.map (Value.int k)) : IntsK k w (.slice (some ⟨b, 0, none⟩) n cap) xs := by
  subst hn
  refine .inr ⟨b, 0, cap, rfl, hb, fun j x hx => ?_⟩
  rw [Nat.zero_add, hc, ← Array.getElem?_toList, hcs, List.getElem?_map, hx]
  rfl
/-- A block of numbers, just made. -/
theorem IntsK.new {w : World} {t n cap b : Nat} {cs : Array Value} (xs : List Int) (hb : b = w.heap.size) (hn : xs.length = n) (hcs : cs.toList = xs.map (Value.int k)) : IntsK k (w.alloc (.cells cs t)) (.slice (some ⟨b, 0, none⟩) n cap) xs :=
  .lit (by simp [hb]) hn (fun j => World.cell?_alloc_at _ _ _ _ hb) hcs
end Go.Proofs.Ytfhlllmicobafaa
/- Elements of an array by value. -/
namespace Go.Proofs.Ytfhlllmicobafaa
open Go.RowKit
variable {P : Program}
theorem run_index1 (t e n : Nat) (cs : Array Value) (j : Nat) (v : Value) (w : World) (hu : P.underlying t = some (.array n e)) (ha : ∀ w, (isAgg e).run P w = .ok false w) (hz : ∀ w, (sizeOf e).run P w = .ok 1 w)
    (hj : j < n) (hv : cs[j]? = some v) : (Instr.index t (.agg cs) (.int .i64 j)).run P w = .ok v w := by
  have h1 : (0 : Int) ≤ (j : Int) ∧ (j : Int) < (n : Int) := by omega
  simp [Instr.index, run_underlying hu, asIntOf, h1, part, ha, hz, hv, go_sem]
  intro h; omega
theorem run_indexN (t e n m : Nat) (cs : Array Value) (j : Nat) (w : World) (hu : P.underlying t = some (.array n e)) (ha : ∀ w, (isAgg e).run P w = .ok true w) (hz : ∀ w, (sizeOf e).run P w = .ok m w)
    (hj : j < n) : (Instr.index t (.agg cs) (.int .i64 j)).run P w = .ok (.agg (cs.extract (j * m) (j * m + m))) w := by
  have h1 : (0 : Int) ≤ (j : Int) ∧ (j : Int) < (n : Int) := by omega
  simp [Instr.index, run_underlying hu, asIntOf, h1, part, ha, hz, go_sem]
  intro h; omega
end Go.Proofs.Ytfhlllmicobafaa
/- A block of cells that the call may write. -/
namespace Go.Proofs.Ytfhlllmicobafaa
open Go.RowKit

structure RowAt (w : World) (b : Nat) (vs : List Value) : Prop where
  cell : w.rangeAt b 0 vs
  fz : ∀ o, w.frozen? ⟨b, o, none⟩ = false
  lt : b < w.heap.size
namespace RowAt
variable {S : Nat → Prop} {w w' : World} {b : Nat} {vs : List Value}
theorem get (h : RowAt w b vs) {j : Nat} {v : Value} (hv : vs[j]? = some v) : w.cell? ⟨b, j, none⟩ = some v := by
  have := h.cell j v hv
  rwa [Nat.zero_add] at this
theorem kept (h : RowAt w b vs) (K : Kept S w w') (hS : ¬ S b) : RowAt w' b vs :=
  ⟨fun j v hv => (K.cell (a := ⟨b, 0 + j, none⟩) h.lt hS).trans (h.cell j v hv), fun o => (K.frozen (a := ⟨b, o, none⟩) h.lt hS).trans (h.fz o), Nat.lt_of_lt_of_le h.lt K.size⟩
theorem same (h : RowAt w b vs) (K : Kept (fun _ => False) w w') : RowAt w' b vs := h.kept K (fun h => h)
theorem there (h : RowAt w b vs) : w.there b 0 vs.length := fun j hj => ⟨by
  have hv : vs[j]? = some vs[j] := List.getElem?_eq_getElem hj
  rw [h.cell j _ hv]; rfl, h.fz _⟩
theorem set (h : RowAt w b vs) {j : Nat} (hj : j < vs.length) (v : Value) : RowAt (w.setCell ⟨b, j, none⟩ v) b (vs.set j v) where
  cell := fun i u hu => by
    have hv : vs[j]? = some vs[j] := List.getElem?_eq_getElem hj
    rw [Nat.zero_add]
    by_cases e : i = j
    · subst e
      rw [List.getElem?_set_self hj] at hu
      injection hu with hu
      subst hu
      exact cell_set_at _ (h.get hv)
    · rw [List.getElem?_set_ne (fun q => e q.symm)] at hu
      rw [cell_set_off _ _ _ _ _ e]
      exact h.get hu
  fz := fun o => by rw [World.frozen?_setCell]; exact h.fz o
  lt := by have := h.lt; simpa using this
theorem new (w : World) (t : Nat) (cs : Array Value) : RowAt (w.alloc (.cells cs t)) w.heap.size cs.toList where
  cell := fun j v hv => by rw [Nat.zero_add, World.cell?_alloc_at _ _ _ _ rfl]; simpa using hv
  fz := fun o => by rw [World.frozen?_alloc_at _ _ _ _ rfl]
  lt := by simp
theorem store (h : RowAt w b vs) (us : List Value) (hl : us.length = vs.length) : RowAt (w.setCells b 0 us) b us where
  cell := World.rangeAt_setCells_same w b 0 us (by rw [hl]; exact h.there)
  fz := fun o => by rw [World.frozen?_setCells]; exact h.fz o
  lt := by
    have : ∀ (us : List Value) (o : Nat) (w : World), (w.setCells b o us).heap.size = w.heap.size := by
      intro us
      induction us with
      | nil => intro o w; rfl
      | cons v r ih => intro o w; rw [World.setCells, ih]; simp
    rw [this]; exact h.lt
end RowAt
theorem Kept.setCells {S : Nat → Prop} {w w' : World} (h : Kept S w w') (b : Nat) (vs : List Value) (hb : b < w.heap.size → S b) : ∀ o, Kept S w (w'.setCells b o vs) := by
  induction vs generalizing w' with
  | nil => intro o; exact h
  | cons v r ih => intro o; rw [World.setCells]; exact ih (h.setCell _ _ hb) _
/-- A block of numbers. -/
abbrev NumsAt (w : World) (b : Nat) (l : List Int) : Prop := RowAt w b (l.map (Value.int .i64))
theorem NumsAt.set {w : World} {b : Nat} {l : List Int} (h : NumsAt w b l) {j : Nat} (hj : j < l.length) (x : Int) : NumsAt (w.setCell ⟨b, j, none⟩ (.int .i64 x)) b (l.set j x) := by
  have := RowAt.set h (j := j) (by simpa using hj) (.int .i64 x)
  unfold NumsAt
  rw [List.map_set]
  exact this
theorem NumsAt.get {w : World} {b : Nat} {l : List Int} (h : NumsAt w b l) {j : Nat} (hj : j < l.length) : w.cell? ⟨b, j, none⟩ = some (.int .i64 (l.getD j 0)) :=
  RowAt.get h (by rw [List.getElem?_map, List.getElem?_eq_getElem hj, List.getD_eq_getElem?_getD, List.getElem?_eq_getElem hj]; rfl)
end Go.Proofs.Ytfhlllmicobafaa
/- append of one element to a row of the call's own: the row's block afterwards is the old one, or a new one. -/
namespace Go.Proofs.Ytfhlllmicobafaa
open Go.RowKit
variable {P : Program}
theorem growslice_ok {n m cap b : Nat} (hcap : cap < n + m) (h : (n + m) * b ≤ 140737488355328) : Builtin.nextslicecap (n + m) cap * b ≤ 281474976710656 := growslice_fits hcap h
theorem run_append_new (w : World) (base : Nat) (t ty e : TypeId) (i : TypeInfo) (z : Value) (size bytes : Nat) (ht : P.underlying t = some (.slice e)) (hi : P.info? e = some i) (hz : i.zero = some z)
    (hsize : i.size = size) (hby : i.bytes = bytes) (hzs : z.cells.size = size) (hsz : 0 < size)
    (v : Value) (n : Nat) (xs : List Value) (hown : w.ownsRow base e size v n xs)
    (a : Addr) (m c : Nat) (news : List Value) (hl : news.length = m * size) (hnews : ∀ j u, news[j]? = some u → w.cell? (a.add j) = some u) (h1 : ∀ u ∈ news, u.oneCell' = true)
    (h63 : n + m ≤ maxLen) (hbytes : (n + m) * bytes ≤ 140737488355328) (hbase : base ≤ w.heap.size) (hm : 0 < m) :
    ∃ v' w', (Builtin.append_ #[t, t] ty #[v, .slice (some a) m c]).run P w = .ok v' w' ∧ w'.ownsRow base e size v' (n + m) (xs ++ news) ∧ w.grownBy w' v.ownBlock ∧
      (v'.ownBlock = v.ownBlock ∨ v'.ownBlock = some w.heap.size) := by
  obtain ⟨v', w', hr, h2, h3, -⟩ := run_append_own (P := P) w base t ty e i z size bytes ht hi hz hsize hby hzs hsz v n xs hown a m c news hl hnews h1 h63 hbytes hbase
  refine ⟨v', w', hr, h2, h3, ?_⟩
  subst hsize
  subst hby
  have hsmall : n + m ≤ 9223372036854775807 := by simp only [maxLen] at h63; omega
  rcases hown.2 with ⟨rfl, rfl⟩ | ⟨g, cap, cur, rfl, hbg, hg, hnc, hcm, hcs, htake⟩
  · right
    have hq := run_append_nil (P := P) w t ty e i z ht hi hz a m c news hl hnews (by omega) (by omega) (by have hb := hbytes; simp only [Nat.zero_add] at hb; omega)
    rw [hr] at hq
    injection hq with hq _
    rw [hq]; rfl
  · by_cases hroom : n + m ≤ cap
    · left
      have hfit : n * i.size + news.length ≤ cur.size := by rw [hl, hcs, ← Nat.add_mul]; exact Nat.mul_le_mul_right _ hroom
      have hq := run_append_room (P := P) w t ty e i ht hi g n cap cur hg a m c news hl hnews h1 hroom hfit
      rw [hr] at hq
      injection hq with hq _
      rw [hq]; rfl
    · right
      have holds : ∀ j u, xs[j]? = some u → w.cell? ((⟨g, 0, none⟩ : Addr).add j) = some u := hown.cells (g := g) rfl
      have hq := run_append_grow (P := P) w t ty e i z ht hi hz ⟨g, 0, none⟩ n cap xs hown.1 holds a m c news hl hnews (by omega) (by omega) (growslice_fits (by omega) hbytes)
      rw [hr] at hq
      injection hq with hq _
      rw [hq]; rfl
theorem wpList_app2 {t e size bytes : Nat} (E : ElemOk P t e size bytes) {ops : Array Oper} {rest : List Oper} {o : Oper} {a : Act} {Q : Exit → Act → World → Prop} (hgd : o.guard = none) (s x : Operand)
    (ho : o.op = .call { callee := .builtin .append, args := #[s, x], argTypes := #[t, t] }) {W : World} {news : List Value} (base : Nat) (v : Value) (n : Nat) (xs : List Value) (hs : a.eval s = v)
    (hown : W.ownsRow base e size v n xs) (hx : a.eval x = .slice (some ⟨W.heap.size, 0, none⟩) 1 1) (hl : news.length = size) (h1 : ∀ u ∈ news, u.oneCell' = true)
    (h63 : n + 1 ≤ maxLen) (hbytes : (n + 1) * bytes ≤ 140737488355328) (hbase : base ≤ W.heap.size)
    (h : ∀ g cap w', w'.ownsRow base e size (.slice (some ⟨g, 0, none⟩) (n + 1) cap) (n + 1) (xs ++ news) → Kept (fun b => v.ownBlock = some b) W w' → (v.ownBlock = some g ∨ W.heap.size ≤ g) → wpList P ops Q rest (a.put o.dst (.slice (some ⟨g, 0, none⟩) (n + 1) cap)) w') :
    wpList P ops Q (o :: rest) a (W.alloc (.cells news.toArray e)) := by
  obtain ⟨i, z, hi, hz, hsz, hby, hzs⟩ := E.info
  have hnews : ∀ j u, news[j]? = some u → (W.alloc (.cells news.toArray e)).cell? ((⟨W.heap.size, 0, none⟩ : Addr).add j) = some u := by
    intro j u hj
    have : (⟨W.heap.size, 0, none⟩ : Addr).add j = ⟨W.heap.size, j, none⟩ := by unfold Addr.add; split <;> simp_all
    rw [this, World.cell?_alloc_at _ _ _ _ rfl]
    simpa using hj
  obtain ⟨v', w', hr, hown', hg, hor⟩ := run_append_new (P := P) (W.alloc (.cells news.toArray e)) base t o.type e i z size bytes E.under hi hz hsz hby hzs E.pos v n xs (hown.alloc _) ⟨W.heap.size, 0, none⟩ 1 1 news (by omega) hnews h1 h63 hbytes (by simp; omega) (by omega)
  refine wpList_plain hgd fun _ hK => ?_
  unfold Oper.wp execOp
  simp only [ho, resolve, invoke, builtin, Sem.run_bind, Sem.run_pure, Result.andThen_ok, List.map_toArray, List.map_cons, List.map_nil, hs, hx, hr]
  have hex : ∃ g cap, v' = .slice (some ⟨g, 0, none⟩) (n + 1) cap := by
    rcases hown'.2 with ⟨-, h0⟩ | ⟨g, cap, cur, hv, -⟩
    · omega
    · exact ⟨g, cap, hv⟩
  obtain ⟨g, cap, rfl⟩ := hex
  refine hK _ _ (h g cap w' hown' (((Kept.refl (fun b => v.ownBlock = some b) W).alloc _).trans (Kept.of_grown hg) (fun i _ hi => hi)) ?_)
  rcases hor with hor | hor
  · left; rw [← hor]; rfl
  · right
    simp [Value.ownBlock] at hor
    omega
end Go.Proofs.Ytfhlllmicobafaa
/- append of m elements, just built, to a row of the call's own; append of a slice's elements of any size. -/
namespace Go.Proofs.Ytfhlllmicobafaa
open Go.RowKit
variable {P : Program}
theorem wpList_appS {t e size bytes : Nat} (E : ElemOk P t e size bytes) {ops : Array Oper} {rest : List Oper} {o : Oper} {a : Act} {Q : Exit → Act → World → Prop} (hgd : o.guard = none) (s x : Operand)
    (ho : o.op = .call { callee := .builtin .append, args := #[s, x], argTypes := #[t, t] }) {W : World} (base : Nat) (v : Value) (n : Nat) (xs : List Value) (hs : a.eval s = v)
    (hown : W.ownsRow base e size v n xs) (b off m c : Nat) (news : List Value) (hx : a.eval x = .slice (some ⟨b, off, none⟩) m c) (hl : news.length = m * size) (hm : 0 < m) (h1 : ∀ u ∈ news, u.oneCell' = true)
    (hc : W.rangeAt b off news) (h63 : n + m ≤ maxLen) (hbytes : (n + m) * bytes ≤ 140737488355328) (hbase : base ≤ W.heap.size)
    (h : ∀ g cap w', w'.ownsRow base e size (.slice (some ⟨g, 0, none⟩) (n + m) cap) (n + m) (xs ++ news) → Kept (fun b => v.ownBlock = some b) W w' → (v.ownBlock = some g ∨ W.heap.size ≤ g) → wpList P ops Q rest (a.put o.dst (.slice (some ⟨g, 0, none⟩) (n + m) cap)) w') :
    wpList P ops Q (o :: rest) a W := by
  obtain ⟨i, z, hi, hz, hsz, hby, hzs⟩ := E.info
  obtain ⟨v', w', hr, hown', hg, hor⟩ := run_append_new (P := P) W base t o.type e i z size bytes E.under hi hz hsz hby hzs E.pos v n xs hown ⟨b, off, none⟩ m c news hl (fun j u hj => by rw [Addr.add_mid]; exact hc j u hj) h1 h63 hbytes hbase hm
  refine wpList_plain hgd fun _ hK => ?_
  unfold Oper.wp execOp
  simp only [ho, resolve, invoke, builtin, Sem.run_bind, Sem.run_pure, Result.andThen_ok, List.map_toArray, List.map_cons, List.map_nil, hs, hx, hr]
  have hex : ∃ g cap, v' = .slice (some ⟨g, 0, none⟩) (n + m) cap := by
    rcases hown'.2 with ⟨-, h0⟩ | ⟨g, cap, cur, hv, -⟩
    · omega
    · exact ⟨g, cap, hv⟩
  obtain ⟨g, cap, rfl⟩ := hex
  refine hK _ _ (h g cap w' hown' (Kept.of_grown hg) ?_)
  rcases hor with hor | hor
  · left; rw [← hor]; rfl
  · right
    simp [Value.ownBlock] at hor
    omega
/-- m elements just built. -/
theorem wpList_appN {t e size bytes : Nat} (E : ElemOk P t e size bytes) {ops : Array Oper} {rest : List Oper} {o : Oper} {a : Act} {Q : Exit → Act → World → Prop} (hgd : o.guard = none) (s x : Operand)
    (ho : o.op = .call { callee := .builtin .append, args := #[s, x], argTypes := #[t, t] }) {W : World} {news : List Value} (base : Nat) (v : Value) (n m : Nat) (xs : List Value) (hs : a.eval s = v)
    (hown : W.ownsRow base e size v n xs) (hx : a.eval x = .slice (some ⟨W.heap.size, 0, none⟩) m m) (hl : news.length = m * size) (hm : 0 < m) (h1 : ∀ u ∈ news, u.oneCell' = true)
    (h63 : n + m ≤ maxLen) (hbytes : (n + m) * bytes ≤ 140737488355328) (hbase : base ≤ W.heap.size)
    (h : ∀ g cap w', w'.ownsRow base e size (.slice (some ⟨g, 0, none⟩) (n + m) cap) (n + m) (xs ++ news) → Kept (fun b => v.ownBlock = some b) W w' → (v.ownBlock = some g ∨ W.heap.size ≤ g) → wpList P ops Q rest (a.put o.dst (.slice (some ⟨g, 0, none⟩) (n + m) cap)) w') :
    wpList P ops Q (o :: rest) a (W.alloc (.cells news.toArray e)) := by
  refine wpList_appS E hgd s x ho base v n xs hs (hown.alloc _) W.heap.size 0 m m news hx hl hm h1 ?_ h63 hbytes (by simp; omega) ?_
  · intro j u hj
    rw [World.cell?_alloc_at _ _ _ _ rfl, Nat.zero_add]
    simpa using hj
  · intro g cap w' h2 K hor
    refine h g cap w' h2 (((Kept.refl (fun b => v.ownBlock = some b) W).alloc _).trans K (fun i _ hi => hi)) ?_
    rcases hor with h | h
    · exact .inl h
    · simp at h; right; omega
/-- However many. -/
theorem wpList_appA {t e size bytes : Nat} (E : ElemOk P t e size bytes) {ops : Array Oper} {rest : List Oper} {o : Oper} {a : Act} {Q : Exit → Act → World → Prop} (hgd : o.guard = none) (s x : Operand)
    (ho : o.op = .call { callee := .builtin .append, args := #[s, x], argTypes := #[t, t] }) {W : World} (base : Nat) (v : Value) (n : Nat) (xs : List Value) (hs : a.eval s = v)
    (hown : W.ownsRow base e size v n xs) (b off m c : Nat) (news : List Value) (hx : a.eval x = .slice (some ⟨b, off, none⟩) m c) (hl : news.length = m * size) (h1 : ∀ u ∈ news, u.oneCell' = true)
    (hc : W.rangeAt b off news) (h63 : n + m ≤ maxLen) (hbytes : (n + m) * bytes ≤ 140737488355328) (hbase : base ≤ W.heap.size)
    (h : ∀ v' w', w'.ownsRow base e size v' (n + m) (xs ++ news) → Kept (fun b => v.ownBlock = some b) W w' → wpList P ops Q rest (a.put o.dst v') w') :
    wpList P ops Q (o :: rest) a W := by
  obtain ⟨i, z, hi, hz, hsz, hby, hzs⟩ := E.info
  refine wpList_append_own _ hgd s x t ho base e i z size bytes E.under hi hz hsz hby hzs E.pos v n xs hs hown ⟨b, off, none⟩ m c news hx hl ?_ h1 h63 hbytes hbase ?_
  · intro j u hj
    rw [Addr.add_mid]
    exact hc j u hj
  · intro v' w' hown' hg _
    exact h v' w' hown' (Kept.of_grown hg)
/-- Nothing, out of a nil slice. -/
theorem wpList_appNil {t e size bytes : Nat} (E : ElemOk P t e size bytes) {ops : Array Oper} {rest : List Oper} {o : Oper} {a : Act} {Q : Exit → Act → World → Prop} (hgd : o.guard = none) (s x : Operand)
    (ho : o.op = .call { callee := .builtin .append, args := #[s, x], argTypes := #[t, t] }) {W : World} (base : Nat) (v : Value) (n : Nat) (xs : List Value) (hs : a.eval s = v)
    (hown : W.ownsRow base e size v n xs) (hx : a.eval x = .slice none 0 0) (h : wpList P ops Q rest (a.put o.dst v) W) : wpList P ops Q (o :: rest) a W := by
  obtain ⟨i, z, hi, -, hsz, -, -⟩ := E.info
  exact wpList_append_own_none hgd s x t ho base e i size E.under hi v n xs hs hown hx h
end Go.Proofs.Ytfhlllmicobafaa
/- Slices of structs of n cells each, whatever they are. -/
namespace Go.Proofs.Ytfhlllmicobafaa
open Go.RowKit
variable {α : Type} {f : α → List Value} {n : Nat}

/-- The cells of a list. -/
def cellsL (f : α → List Value) (l : List α) : List Value := l.flatMap f
theorem cellsL_cons (x : α) (l : List α) : cellsL f (x :: l) = f x ++ cellsL f l := rfl
theorem cellsL_append (l m : List α) : cellsL f (l ++ m) = cellsL f l ++ cellsL f m := by simp [cellsL]
theorem cellsL_one (x : α) : cellsL f [x] = f x := by simp [cellsL]
theorem cellsL_length (hf : ∀ x, (f x).length = n) (l : List α) : (cellsL f l).length = l.length * n := by
  induction l with
  | nil => simp [cellsL]
  | cons x l ih => rw [cellsL_cons, List.length_append, ih, hf, List.length_cons, Nat.succ_mul]; omega
theorem cellsL_get (hf : ∀ x, (f x).length = n) {l : List α} {j i : Nat} {x : α} (h : l[j]? = some x) (hi : i < n) : (cellsL f l)[j * n + i]? = (f x)[i]? := by
  induction l generalizing j with
  | nil => simp at h
  | cons y l ih =>
    rw [cellsL_cons]
    cases j with
    | zero =>
      simp at h; subst h
      rw [Nat.zero_mul, Nat.zero_add, List.getElem?_append_left (by rw [hf]; exact hi)]
    | succ j =>
      simp at h
      rw [Nat.succ_mul, List.getElem?_append_right (by rw [hf]; omega), hf]
      have e : j * n + n + i - n = j * n + i := by omega
      rw [e]
      exact ih h
theorem cellsL_all (hf : ∀ x, ∀ u ∈ f x, u.oneCell' = true) (l : List α) : ∀ u ∈ cellsL f l, u.oneCell' = true := by
  intro u hu
  obtain ⟨x, -, hu⟩ := List.mem_flatMap.1 hu
  exact hf x u hu
/-- A place inside one of the structs. -/
theorem cellsL_inv (hf : ∀ x, (f x).length = n) {l : List α} {j : Nat} {u : Value} (h : (cellsL f l)[j]? = some u) : ∃ x, l[j / n]? = some x ∧ (f x)[j % n]? = some u := by
  have hj := (List.getElem?_eq_some_iff.1 h).1
  rw [cellsL_length hf] at hj
  have hn : 0 < n := by
    rcases Nat.eq_zero_or_pos n with h0 | h0
    · subst h0; simp at hj
    · exact h0
  have hq : j / n < l.length := Nat.div_lt_of_lt_mul (by rw [Nat.mul_comm]; exact hj)
  have hx : l[j / n]? = some l[j / n] := List.getElem?_eq_getElem hq
  refine ⟨_, hx, ?_⟩
  rw [← cellsL_get hf hx (Nat.mod_lt _ hn), Nat.mul_comm, Nat.div_add_mod, h]
/-- The structs xs lie in block b from off on. -/
def RowsAt (f : α → List Value) (n : Nat) (w : World) (b off : Nat) (xs : List α) : Prop := ∀ j x, xs[j]? = some x → ∀ i u, (f x)[i]? = some u → w.cell? ⟨b, off + j * n + i, none⟩ = some u
/-- The slice v reads as the structs xs. -/
def Rows (f : α → List Value) (n : Nat) (w : World) (v : Value) (xs : List α) : Prop :=
  (∃ a cap, v = .slice a 0 cap ∧ xs = []) ∨ ∃ b off cap, v = .slice (some ⟨b, off, none⟩) xs.length cap ∧ xs.length ≤ cap ∧ b < w.heap.size ∧ RowsAt f n w b off xs
theorem Rows.len {w : World} {v : Value} {xs : List α} (h : Rows f n w v xs) : ∃ a cap, v = .slice a xs.length cap := by
  rcases h with ⟨a, cap, rfl, rfl⟩ | ⟨b, off, cap, rfl, -⟩
  · exact ⟨a, cap, rfl⟩
  · exact ⟨_, cap, rfl⟩
theorem Rows.pos {w : World} {v : Value} {xs : List α} (h : Rows f n w v xs) (hp : 0 < xs.length) : ∃ b off cap, v = .slice (some ⟨b, off, none⟩) xs.length cap ∧ xs.length ≤ cap ∧ b < w.heap.size ∧ RowsAt f n w b off xs := by
  rcases h with ⟨a, cap, rfl, rfl⟩ | h
  · simp at hp
  · exact h
theorem RowsAt.kept {S : Nat → Prop} {w w' : World} {b off : Nat} {xs : List α} (h : RowsAt f n w b off xs) (hb : b < w.heap.size) (K : Kept S w w') (hS : ¬ S b) : RowsAt f n w' b off xs := fun j x hx i u hu =>
  (K.cell (a := ⟨b, off + j * n + i, none⟩) hb hS).trans (h j x hx i u hu)
theorem Rows.kept {S : Nat → Prop} {w w' : World} {v : Value} {xs : List α} (h : Rows f n w v xs) (K : Kept S w w') (hS : ∀ b, v.ownBlock = some b → 0 < xs.length → ¬ S b) : Rows f n w' v xs := by
  rcases h with h | ⟨b, off, cap, rfl, hcap, hb, hc⟩
  · exact .inl h
  · cases xs with
    | nil => exact .inl ⟨_, cap, rfl, rfl⟩
    | cons x xs => exact .inr ⟨b, off, cap, rfl, hcap, Nat.lt_of_lt_of_le hb K.size, hc.kept hb K (hS b rfl (by simp))⟩
theorem Rows.same {w w' : World} {v : Value} {xs : List α} (h : Rows f n w v xs) (K : Kept (fun _ => False) w w') : Rows f n w' v xs := h.kept K (fun _ _ _ h => h)
theorem Rows.block {w : World} {v : Value} {xs : List α} (h : Rows f n w v xs) {b : Nat} (hb : v.ownBlock = some b) (hx : 0 < xs.length) : b < w.heap.size := by
  obtain ⟨b', off, cap, rfl, _, hb', -⟩ := h.pos hx
  simp [Value.ownBlock] at hb
  omega
theorem Rows.of_own {w : World} {base e : Nat} {v : Value} {xs : List α} (hf : ∀ x, (f x).length = n) (h : w.ownsRow base e n v xs.length (cellsL f xs)) : Rows f n w v xs := by
  rcases h.2 with ⟨rfl, h0⟩ | ⟨g, cap, cur, rfl, hg, hh, hcap, -⟩
  · exact .inl ⟨none, 0, rfl, List.eq_nil_of_length_eq_zero h0⟩
  · refine .inr ⟨g, 0, cap, rfl, hcap, (Array.getElem?_eq_some_iff.1 hh).1, fun j x hx i u hu => ?_⟩
    have hj := (List.getElem?_eq_some_iff.1 hx).1
    have hi : i < n := by have := (List.getElem?_eq_some_iff.1 hu).1; rw [hf] at this; exact this
    have hjn : j * n + i < xs.length * n := by
      have : (j + 1) * n ≤ xs.length * n := Nat.mul_le_mul_right n hj
      rw [Nat.succ_mul] at this
      omega
    rw [Nat.zero_add, h.cellAt _ (by exact hjn), cellsL_get hf hx hi, hu]
theorem Rows.nil (f : α → List Value) (n : Nat) (w : World) : Rows f n w (.slice none 0 0) [] := .inl ⟨none, 0, rfl, rfl⟩
/-- The first k. -/
theorem Rows.take {w : World} {p : Option Addr} {m c : Nat} {xs : List α} (h : Rows f n w (.slice p m c) xs) {k : Nat} (hk : k ≤ xs.length) : Rows f n w (.slice p k c) (xs.take k) := by
  rcases Nat.eq_zero_or_pos k with h0 | h0
  · subst h0; exact .inl ⟨p, c, rfl, rfl⟩
  · obtain ⟨b, off, cap, hv, hcap, hb, hc⟩ := h.pos (by omega)
    injection hv with e1 e2 e3
    subst e1 e3
    have hl : (xs.take k).length = k := by rw [List.length_take]; omega
    refine .inr ⟨b, off, c, by rw [hl], by omega, hb, fun j x hx => ?_⟩
    have hj : j < k := by have := (List.getElem?_eq_some_iff.1 hx).1; omega
    rw [List.getElem?_take_of_lt hj] at hx
    exact hc j x hx
/-- All but the first k. -/
theorem Rows.drop {w : World} {b off m c : Nat} {xs : List α} (h : Rows f n w (.slice (some ⟨b, off, none⟩) m c) xs) {k : Nat} (hk : k ≤ xs.length) : Rows f n w (.slice (some ⟨b, off + k * n, none⟩) (m - k) (c - k)) (xs.drop k) := by
  obtain ⟨a, cap, hv⟩ := h.len
  injection hv with _ e2 _
  subst e2
  rcases Nat.eq_zero_or_pos (xs.length - k) with h0 | h0
  · exact .inl ⟨_, c - k, by rw [h0], List.eq_nil_of_length_eq_zero (by rw [List.length_drop]; exact h0)⟩
  · obtain ⟨b', off', cap, hv, hcap, hb, hc⟩ := h.pos (by omega)
    injection hv with e1 e2 e3
    injection e1 with e1
    injection e1 with e1 e1'
    subst e1 e1' e3
    refine .inr ⟨b, off + k * n, c - k, by rw [List.length_drop], by rw [List.length_drop]; omega, hb, fun j x hx i u hu => ?_⟩
    rw [List.getElem?_drop] at hx
    have := hc _ x hx i u hu
    rw [Nat.add_mul] at this
    rw [← this]
    congr 2
    omega
/-- A whole list, as a row of cells. -/
theorem Rows.range {w : World} {b off m c : Nat} {xs : List α} (hf : ∀ x, (f x).length = n) (h : Rows f n w (.slice (some ⟨b, off, none⟩) m c) xs) (h0 : 0 < xs.length) : w.rangeAt b off (cellsL f xs) := by
  obtain ⟨b', off', cap, hv, hcap, hb, hc⟩ := h.pos h0
  injection hv with e1 e2 e3
  injection e1 with e1
  injection e1 with e1 e1'
  subst e1 e1'
  intro j u hu
  obtain ⟨x, hx, hxu⟩ := cellsL_inv hf hu
  have := hc _ x hx _ u hxu
  rw [Nat.add_assoc, Nat.mul_comm, Nat.div_add_mod] at this
  exact this
end Go.Proofs.Ytfhlllmicobafaa
/- A region that draws its order, whose operations read the same in every world of a class and whose calls stay in the class. -/
namespace Go.Proofs.Ytfhlllmicobafaa
variable {P : Program} {ops : Array Oper} {C : World → Prop} {Q : Act → Prop} {a : Act} {o : Oper} {rest : List Oper}
theorem wpQuiet_yes (hw : Region.wanted o (yielded ops a.tmps) = true) (v : Value) (h : ∀ w, C w → Oper.quietUpon P C w v ((execOp a.eval o).run P w)) (hn : wpQuiet P ops C Q rest (a.put o.dst v)) : wpQuiet P ops C Q (o :: rest) a := by
  unfold wpQuiet
  rw [if_pos hw]
  exact ⟨v, h, hn⟩
theorem wpQuiet_no (hw : Region.wanted o (yielded ops a.tmps) = false) (hn : wpQuiet P ops C Q rest (a.put o.dst undef)) : wpQuiet P ops C Q (o :: rest) a := by
  unfold wpQuiet
  rw [if_neg (by rw [hw]; decide)]
  exact hn
theorem quietUpon_value {w : World} {u v : Value} (h : u = v) : Oper.quietUpon P C w v (.ok (.value u) w) := ⟨rfl, h⟩
theorem quietUpon_call {w : World} {v : Value} {f : Nat} {args : Array Value} (h : Calls P f args w (fun e w'' => e = .returned v ∧ C w'')) : Oper.quietUpon P C w v (.ok (.enter f args) w) := ⟨rfl, h⟩
theorem wp_region_class {id : Nat} {Q : Exit → Act → World → Prop} {w : World} {l : List Oper} (C : World → Prop) (hm : P.follows .mixedOrders = true) (hB : Region.lexB .any l.toArray = true) (hC : C w.drew)
    (h : wpQuiet P l.toArray C (fun a' => ∀ w', C w' → Q .normal a' w') l a) : (Code.region id l.toArray true).wp P Q a w :=
  wp_region_quiet (C := C) hm hB hC (by simpa using h)
end Go.Proofs.Ytfhlllmicobafaa
/- A map with keys of type int, of whatever elements: what it holds, as a function. -/
namespace Go.Proofs.Ytfhlllmicobafaa
open Go.RowKit
open Go.Maps (Keyed)

/-- How elements read. -/
structure ECode {β : Type} (R : Value → Option (DataW Unit × List MemPlace)) (enc : β → Value) (dat : β → DataW Unit) : Prop where
  at_ : ∀ x, R (enc x) = some (dat x, [])
  inv : ∀ v x ps, R v = some (dat x, ps) → v = enc x
  shape : ∀ v y, R v = some y → ∃ c, v = enc c

def Wf (r : Int) : Prop := (Lit.int .i64 r).wf = true
theorem Wf.of {r : Int} (h0 : -9223372036854775808 ≤ r) (h1 : r ≤ 9223372036854775807) : Wf r := by
  unfold Wf
  exact WalkArith.wf_i64 ⟨h0, h1⟩
variable {β : Type} {P : Program} {K : TypeId} {R : Value → Option (DataW Unit × List MemPlace)} {enc : β → Value} {dat : β → DataW Unit} {w w' : World} {b n : Nat} {g : Int → Option β}

/-- Block b is a map of at most n entries that holds g. -/
def MapOf (P : Program) (K : TypeId) (R : Value → Option (DataW Unit × List MemPlace)) (dat : β → DataW Unit) (w : World) (b n : Nat) (g : Int → Option β) : Prop :=
  ∃ D : DataW Unit, w.ownsMap P K R b n D ∧ ∀ r, Wf r → Maps.has D (.int .i64 r) = (g r).isSome ∧ ∀ x, g r = some x → ∀ z, D.atKey (.int .i64 r) z = dat x
theorem MapOf.made (w : World) (P : Program) (K : TypeId) (R : Value → Option (DataW Unit × List MemPlace)) (dat : β → DataW Unit) : MapOf P K R dat (w.alloc (.map #[] 0)) w.heap.size 0 (fun _ => none) :=
  ⟨_, World.ownsMap_made w P K R, fun r _ => ⟨rfl, fun x h => by cases h⟩⟩
theorem MapOf.lt (h : MapOf P K R dat w b n g) : b < w.heap.size := let ⟨_, h, _⟩ := h; h.lt
theorem MapOf.kept {S : Nat → Prop} (h : MapOf P K R dat w b n g) (k : Kept S w w') (hS : ¬ S b) : MapOf P K R dat w' b n g := by
  have hlt := h.lt
  obtain ⟨D, ⟨es, clock, hb, r⟩, h2⟩ := h
  exact ⟨D, ⟨es, clock, by rw [k.block b hlt hS]; exact hb, r⟩, h2⟩
theorem MapOf.same (h : MapOf P K R dat w b n g) (k : Kept (fun _ => False) w w') : MapOf P K R dat w' b n g := h.kept k (fun h => h)
theorem MapOf.congr {g' : Int → Option β} (h : MapOf P K R dat w b n g) (hg : ∀ r, Wf r → g' r = g r) : MapOf P K R dat w b n g' := by
  obtain ⟨D, h1, h2⟩ := h
  exact ⟨D, h1, fun r hr => by rw [hg r hr]; exact h2 r hr⟩
theorem MapOf.mono (h : MapOf P K R dat w b n g) {n' : Nat} (hn : n ≤ n') : MapOf P K R dat w b n' g := by
  obtain ⟨D, h1, h2⟩ := h
  exact ⟨D, h1.mono hn, h2⟩
theorem kept_turned (h : w.mapTurned w' b) : Kept (fun i => i = b) w w' := by
  have hg := h.grown
  exact ⟨hg.os, hg.tape, hg.output, hg.size, fun k hk hn => hg.block k hk (fun e => hn (by injection e))⟩
theorem kept_grown {row : Option Nat} (hg : w.grownBy w' row) : Kept (fun i => row = some i) w w' :=
  ⟨hg.os, hg.tape, hg.output, hg.size, fun k hk hn => hg.block k hk (fun e => hn e.symm)⟩
theorem key_lit {P : Program} {K : TypeId} (hk : P.underlying K = some (.int .i64)) {r : Int} (hr : Wf r) : keyOf P K (.int .i64 r) = some (.int .i64 r) := Maps.keyOf_int_mk hk hr
theorem lit_ne {r s : Int} (h : r ≠ s) : (Lit.int .i64 r) ≠ Lit.int .i64 s := fun e => h (by injection e)

section
variable {ops : Array Oper} {rest : List Oper} {o : Oper} {a : Act} {Q : Exit → Act → World → Prop}
theorem wpList_look_some (C : ECode R enc dat) (hg : o.guard = none) (m x : Operand) (t : TypeId) (hop : o.op = Op.lookup t m x true) (e : TypeId) (hk : P.underlying K = some (.int .i64)) (ht : P.underlying t = some (.map K e)) (z : β)
    (hz : (zeroValue e).run P w = .ok (enc z) w) (b n : Nat) (g : Int → Option β) (hm : a.eval m = .map (some b)) (h : MapOf P K R dat w b n g) (r : Int) (hx : a.eval x = .int .i64 r) (hr : Wf r) (y : β) (hy : g r = some y)
    (hK : wpList P ops Q rest (a.put o.dst (.tuple #[enc y, .bool true])) w) : wpList P ops Q (o :: rest) a w := by
  obtain ⟨D, h1, h2⟩ := h
  obtain ⟨h3, h4⟩ := h2 r hr
  refine wpList_lookup_own_ok w hg m x t hop K e (Maps.int_keyed hk) ht R hz (dat z) [] (C.at_ z) b n D hm h1 (.int .i64 r) (.int .i64 r) hx (key_lit hk hr) fun v ps hv => ?_
  rw [h4 y hy] at hv
  rw [C.inv v y ps hv, h3, hy]
  exact hK
theorem wpList_look_none (C : ECode R enc dat) (hg : o.guard = none) (m x : Operand) (t : TypeId) (hop : o.op = Op.lookup t m x true) (e : TypeId) (hk : P.underlying K = some (.int .i64)) (ht : P.underlying t = some (.map K e)) (z : β)
    (hz : (zeroValue e).run P w = .ok (enc z) w) (b n : Nat) (g : Int → Option β) (hm : a.eval m = .map (some b)) (h : MapOf P K R dat w b n g) (r : Int) (hx : a.eval x = .int .i64 r) (hr : Wf r) (hy : g r = none)
    (hK : wpList P ops Q rest (a.put o.dst (.tuple #[enc z, .bool false])) w) : wpList P ops Q (o :: rest) a w := by
  obtain ⟨D, h1, h2⟩ := h
  obtain ⟨h3, h4⟩ := h2 r hr
  rw [hy] at h3
  refine wpList_lookup_own_ok w hg m x t hop K e (Maps.int_keyed hk) ht R hz (dat z) [] (C.at_ z) b n D hm h1 (.int .i64 r) (.int .i64 r) hx (key_lit hk hr) fun v ps hv => ?_
  rw [Maps.atKey_of_not_has h3] at hv
  rw [C.inv v z ps hv, h3]
  exact hK
theorem wpList_store_of (C : ECode R enc dat) (hg : o.guard = none) (m x v : Operand) (t : TypeId) (hop : o.op = Op.mapUpdate t m x v) (e : TypeId) (hk : P.underlying K = some (.int .i64)) (ht : P.underlying t = some (.map K e))
    (b n : Nat) (g : Int → Option β) (hm : a.eval m = .map (some b)) (h : MapOf P K R dat w b n g) (hn : n < maxLen) (r : Int) (hx : a.eval x = .int .i64 r) (hr : Wf r) (y : β) (hv : a.eval v = enc y)
    (hK : ∀ w', MapOf P K R dat w' b (n + 1) (fun s => if s = r then some y else g s) → Kept (fun i => i = b) w w' → wpList P ops Q rest (a.put o.dst undef) w') : wpList P ops Q (o :: rest) a w := by
  obtain ⟨D, h1, h2⟩ := h
  refine wpList_mapUpdate_in w hg m x v t hop K e (Maps.int_keyed hk) ht R b n D hm h1 hn (.int .i64 r) (enc y) (.int .i64 r) hx hv (key_lit hk hr) (dat y) [] (C.at_ y) fun w' h3 h4 => hK w' ⟨_, h3, fun s hs => ?_⟩ (kept_turned h4)
  dsimp only
  by_cases e : s = r
  · subst e
    rw [if_pos rfl]
    exact ⟨Maps.has_put_same h1.isMap (show WideAt.IsKeyLit (Lit.int .i64 s) from trivial) _, fun x hx z => by injection hx with hx; subst hx; exact Maps.atKey_put_same h1.isMap (show WideAt.IsKeyLit (Lit.int .i64 s) from trivial) _ _⟩
  · rw [if_neg e, Maps.has_put_other (lit_ne e)]
    exact ⟨(h2 s hs).1, fun x hx z => by rw [Maps.atKey_put_other (lit_ne e)]; exact (h2 s hs).2 x hx z⟩
theorem wpList_delete_of (hg : o.guard = none) (m x : Operand) (t : TypeId) (hop : o.op = Op.call { callee := Callee.builtin Builtin.delete, args := #[m, x], argTypes := #[t, K] }) (e : TypeId) (hk : P.underlying K = some (.int .i64)) (ht : P.underlying t = some (.map K e))
    (b n : Nat) (g : Int → Option β) (hm : a.eval m = .map (some b)) (h : MapOf P K R dat w b n g) (r : Int) (hx : a.eval x = .int .i64 r) (hr : Wf r)
    (hK : ∀ w', MapOf P K R dat w' b n (fun s => if s = r then none else g s) → Kept (fun i => i = b) w w' → wpList P ops Q rest (a.put o.dst (.tuple #[])) w') : wpList P ops Q (o :: rest) a w := by
  obtain ⟨D, h1, h2⟩ := h
  refine wpList_delete_own w hg m x t K hop e (Maps.int_keyed hk) ht R b n D hm h1 (.int .i64 r) (.int .i64 r) hx (key_lit hk hr) fun w' h3 h4 => hK w' ⟨_, h3, fun s hs => ?_⟩ (kept_turned h4)
  dsimp only
  by_cases e : s = r
  · subst e
    rw [if_pos rfl]
    exact ⟨Maps.has_del_same, fun x hx => by cases hx⟩
  · rw [if_neg e, Maps.has_del_other (lit_ne e)]
    exact ⟨(h2 s hs).1, fun x hx z => by rw [Maps.atKey_del_other (lit_ne e)]; exact (h2 s hs).2 x hx z⟩

/-- A range over the map is under way; the keys ks have come. -/
def RangeOf (P : Program) (K : TypeId) (R : Value → Option (DataW Unit × List MemPlace)) (dat : β → DataW Unit) (w : World) (b r n : Nat) (g : Int → Option β) (ks : List Int) (cnt : Nat) : Prop :=
  ∃ (D : DataW Unit) (left : Lit → Bool), w.ranges P K R b r n D left cnt ∧ (∀ s, Wf s → Maps.has D (.int .i64 s) = (g s).isSome ∧ ∀ x, g s = some x → ∀ z, D.atKey (.int .i64 s) z = dat x) ∧
    (∀ s, Wf s → left (.int .i64 s) = ((g s).isSome && !ks.contains s)) ∧ ks.Nodup ∧ (∀ s ∈ ks, Wf s ∧ (g s).isSome = true)
theorem RangeOf.map {r : Nat} {ks : List Int} {cnt : Nat} (h : RangeOf P K R dat w b r n g ks cnt) : MapOf P K R dat w b n g := let ⟨D, _, h1, h2, _⟩ := h; ⟨D, h1.owns, h2⟩
theorem RangeOf.left {r : Nat} {ks : List Int} {cnt : Nat} (h : RangeOf P K R dat w b r n g ks cnt) : w.rangeLeft b r = cnt := let ⟨_, _, h1, _⟩ := h; h1.left_eq
theorem RangeOf.lt {r : Nat} {ks : List Int} {cnt : Nat} (h : RangeOf P K R dat w b r n g ks cnt) : r < w.heap.size ∧ b < w.heap.size ∧ r ≠ b := let ⟨_, _, h1, _⟩ := h; ⟨h1.lt, h1.owns.lt, h1.ne⟩
theorem RangeOf.kept {r : Nat} {ks : List Int} {cnt : Nat} {S : Nat → Prop} (h : RangeOf P K R dat w b r n g ks cnt) (k : Kept S w w') (hb : ¬ S b) (hr : ¬ S r) : RangeOf P K R dat w' b r n g ks cnt := by
  obtain ⟨l1, l2, _⟩ := h.lt
  obtain ⟨D, left, ⟨es, clock, since, seen, c0, q1, q2, q3, q4, q5, q6⟩, h2⟩ := h
  exact ⟨D, left, ⟨es, clock, since, seen, c0, by rw [k.block b l2 hb]; exact q1, q2, q3, q4, by rw [k.block r l1 hr]; exact q5, q6⟩, h2⟩
theorem wpList_range_of (hg : o.guard = none) (m : Operand) (t : TypeId) (hop : o.op = Op.range t m) (e : TypeId) (hk : P.underlying K = some (.int .i64)) (ht : P.underlying t = some (.map K e))
    (b n : Nat) (g : Int → Option β) (hm : a.eval m = .map (some b)) (h : MapOf P K R dat w b n g)
    (hK : ∀ w' cnt, RangeOf P K R dat w' b w.heap.size n g [] cnt → cnt ≤ n → Kept (fun _ => False) w w' → w'.heap.size = w.heap.size + 1 → wpList P ops Q rest (a.put o.dst (.pointer (some ⟨w.heap.size, 0, none⟩))) w') : wpList P ops Q (o :: rest) a w := by
  obtain ⟨D, h1, h2⟩ := h
  refine wpList_range_own w hg m t hop K e (Maps.int_keyed hk) ht R b n D hm h1 fun w' h3 h4 h5 => hK w' _ ⟨D, _, h3, h2, fun s hs => by rw [(h2 s hs).1]; simp, by simp, by simp⟩ h1.size_le ((kept_grown h4).mono fun _ _ h => by cases h) h5
theorem sameKey_int (s r : Int) : (Lit.int .i64 s).sameKey (.int .i64 r) = decide (s = r) := by
  by_cases h : s = r
  · subst h; simp [Lit.sameKey]
  · rw [Maps.sameKey_ne (lit_ne h)]; simp [h]
theorem wpList_next_of (C : ECode R enc dat) (hg : o.guard = none) (it : Operand) (hop : o.op = Op.next it false) (hk : P.underlying K = some (.int .i64)) (b r n : Nat) (g : Int → Option β) (ks : List Int) (cnt : Nat)
    (hit : a.eval it = .pointer (some ⟨r, 0, none⟩)) (h : RangeOf P K R dat w b r n g ks cnt)
    (hDone : cnt = 0 → (∀ s, Wf s → (g s).isSome = true → s ∈ ks) → wpList P ops Q rest (a.put o.dst (.tuple #[.bool false])) w)
    (hMore : ∀ (s : Int) (x : β) (w' : World) (cnt' : Nat), Wf s → s ∉ ks → g s = some x → RangeOf P K R dat w' b r n g (ks ++ [s]) cnt' → cnt' < cnt → Kept (fun i => i = r) w w' → w'.heap.size = w.heap.size →
      (Instr.entry (.pointer (some ⟨r, 0, none⟩))).run P w' = .ok (.tuple #[.int .i64 s, enc x]) w' → wpList P ops Q rest (a.put o.dst (.tuple #[.bool true, .int .i64 s, enc x])) w') : wpList P ops Q (o :: rest) a w := by
  obtain ⟨D, left, h1, h2, h3, h4, h5⟩ := h
  refine wpList_next_ranges w hg it hop K (Maps.int_keyed hk) R (Value.int .i64) enc (fun key kl hkey => by obtain ⟨x, rfl, _⟩ := Maps.keyOf_int_inv hk hkey; exact ⟨x, rfl⟩) (fun v y hv => C.shape v y hv) b r n D left cnt hit h1
    (fun h0 hl => hDone h0 fun s hs hg => ?_) (fun s c kl y w' cnt' hkey hlk hv hat hrg hlt hgr hsz hen => ?_)
  · have := h3 s hs
    rw [hl, hg] at this
    simpa using this.symm
  · obtain ⟨s', es, rfl, hws⟩ := Maps.keyOf_int_inv hk hkey
    cases es
    have h6 := h3 s hws
    rw [hlk] at h6
    have h7 : (g s).isSome = true ∧ s ∉ ks := by
      have := h6.symm
      simp only [Bool.and_eq_true, Bool.not_eq_true', List.contains_eq_mem, decide_eq_false_iff_not] at this
      exact this
    obtain ⟨x, hx⟩ := Option.isSome_iff_exists.1 h7.1
    have hd := (h2 s hws).2 x hx (dat x)
    rw [hat] at hd
    have hcx : enc c = enc x := C.inv _ x y.2 (by rw [hv, ← hd])
    rw [hcx] at hen ⊢
    refine hMore s x w' cnt' hws h7.2 hx ⟨D, _, hrg, h2, fun q hq => ?_, ?_, fun q hq => ?_⟩ hlt ((kept_grown hgr).mono fun i _ e => by injection e with e; exact e.symm) hsz hen
    · rw [h3 q hq, sameKey_int]
      by_cases e : q = s
      · subst e; simp
      · simp [e]
    · rw [List.nodup_append]
      exact ⟨h4, by simp, fun p hp q hq e => by simp at hq; subst hq e; exact h7.2 hp⟩
    · rcases List.mem_append.1 hq with hq | hq
      · exact h5 q hq
      · simp at hq; subst hq; exact ⟨hws, h7.1⟩
end
end Go.Proofs.Ytfhlllmicobafaa
/- A slice of structs that a call makes for itself, element by element. -/
namespace Go.Proofs.Ytfhlllmicobafaa
open Go.RowKit
variable {α : Type} {f : α → List Value} {n e : Nat}

/-- The slice v, in blocks newer than w, holds xs; nothing of w has changed. -/
def RO (f : α → List Value) (n e : Nat) (w wk : World) (v : Value) (xs : List α) : Prop := wk.ownsRow w.heap.size e n v xs.length (cellsL f xs) ∧ w.heap.size ≤ wk.heap.size ∧ Kept (fun _ => False) w wk
theorem RO.start (f : α → List Value) (n e : Nat) (w : World) : RO f n e w w (.slice none 0 0) [] := ⟨⟨by simp [cellsL], .inl ⟨rfl, rfl⟩⟩, Nat.le_refl _, Kept.refl _ _⟩
theorem RO.step {w w1 w2 : World} {v1 v2 : Value} {x1 x2 : List α} (h : RO f n e w w1 v1 x1) (h2 : w2.ownsRow w.heap.size e n v2 x2.length (cellsL f x2)) (K : Kept (fun b => v1.ownBlock = some b) w1 w2) : RO f n e w w2 v2 x2 :=
  ⟨h2, Nat.le_trans h.2.1 K.size, h.2.2.trans K fun i hi hv => by have := (ownsRow_block h.1 hv).1; omega⟩
theorem RO.move {w w1 w2 : World} {v1 : Value} {x1 : List α} (h : RO f n e w w1 v1 x1) (K : Kept (fun _ => False) w1 w2) : RO f n e w w2 v1 x1 :=
  ⟨ownsRow_kept h.1 K (fun _ _ _ h => h), Nat.le_trans h.2.1 K.size, h.2.2.trans K fun _ _ h => h⟩
theorem RO.base {w w1 wk : World} {v : Value} {xs : List α} (h : RO f n e w1 wk v xs) (K : Kept (fun _ => False) w w1) : RO f n e w wk v xs :=
  ⟨ownsRow_base h.1 K.size, Nat.le_trans K.size h.2.1, K.trans h.2.2 fun _ _ h => h⟩
theorem RO.val {w w1 : World} {v : Value} {xs : List α} (h : RO f n e w w1 v xs) : ∃ p c, v = .slice p xs.length c := by
  rcases h.1.2 with ⟨rfl, h0⟩ | ⟨g, cap, cur, rfl, -⟩
  · exact ⟨none, 0, by rw [h0]⟩
  · exact ⟨_, cap, rfl⟩
theorem RO.rows (hf : ∀ x, (f x).length = n) {w w1 : World} {v : Value} {xs : List α} (h : RO f n e w w1 v xs) : Rows f n w1 v xs := Rows.of_own hf h.1
/-- One more. -/
theorem RO.snoc {w w1 w2 : World} {v1 v2 : Value} {m : Nat} {x1 : List α} {x : α} (h : RO f n e w w1 v1 x1) (hm : x1.length = m) (h2 : w2.ownsRow w.heap.size e n v2 (m + 1) (cellsL f x1 ++ f x)) (K : Kept (fun b => v1.ownBlock = some b) w1 w2) : RO f n e w w2 v2 (x1 ++ [x]) := by
  refine h.step ?_ K
  rw [cellsL_append, cellsL_one, List.length_append, List.length_singleton, hm]
  exact h2
theorem cells_ints (l : List Int) : cellsL (fun x => [Value.int .i64 x]) l = l.map (Value.int .i64) := by
  induction l with
  | nil => rfl
  | cons x l ih => rw [cellsL_cons, ih]; rfl
end Go.Proofs.Ytfhlllmicobafaa
/- A row's end where nothing that was there has turned. -/
namespace Go.Proofs.Ytfhlllmicobafaa
open Go.RowKit Go.ChangeShapes Go.WideShapes Go.ChangeAt

theorem Kept.frame {W w' : World} (h : Kept (fun _ => False) W w') (may : MemPlace → Prop) : W.keptBut w' may :=
  (h.below (Nat.le_refl _) (fun _ _ f => f)).frame may

theorem post_of_kept {H : Type} {enc : TypeId × Value → H} {P : Program} {f : Func} {s : ChangeSpec} {apart fresh handsOn : Bool} {W W' : World} {args : Array Value} {v : Value} {ds gs : List (DataW H)} {before pa pv : List MemPlace}
    (hW : DataW.Whole enc P f.params.toList s.vars apart W args.toList ds gs before)
    (hres : ∀ (b : Nat) (sp : Nat → Bool) (hd : Bool), DataW.TrodAll enc P W' b sp hd f.resultTypes.toList (v.resultList f.resultTypes.size) (s.fn H (ds ++ gs)).results [])
    (hargs : ∀ sp : Nat → Bool, (∀ p ∈ before, sp p.block = true) → DataW.TrodAll enc P W' 0 sp true f.params.toList args.toList (s.fn H (ds ++ gs)).args pa)
    (hvars : ∀ sp : Nat → Bool, (∀ p ∈ before, sp p.block = true) → DataW.TrodVars enc P W' sp s.vars (s.fn H (ds ++ gs)).vars pv)
    (hk : Kept (fun _ => False) W W') : s.post enc P f apart fresh handsOn false W args v W' := by
  have hold : ∀ p ∈ before, (fun b => decide (b < W.heap.size)) p.block = true := fun p hp => by simpa using hW.lt p hp
  exact ⟨ds, gs, before, [], pa, pv, hW, hres _ _ _, hargs _ hold, hvars _ hold, hk.frame _, fun h => by cases h⟩
end Go.Proofs.Ytfhlllmicobafaa
/- A row's end where nothing that was there has turned: every argument, of whatever type, reads as before. -/
namespace Go.Proofs.Ytfhlllmicobafaa
open Go.RowKit Go.ChangeShapes Go.WideShapes Go.ChangeAt
variable {H : Type} {enc : TypeId × Value → H} {P : Program}

theorem trodAll_keep (hl : laidOutB P = true) {W W' : World} (hb : Below W.heap.size W W') :
    ∀ {ts : List TypeId} {vs : List Value} {ds : List (DataW H)} {ps : List MemPlace}, (ts.all fun t => P.readableRec t && decide (t < P.types.size)) = true → DataW.TrodAll enc P W 0 (fun _ => true) true ts vs ds ps → (∀ x ∈ ps, x.block < W.heap.size) →
      DataW.TrodAll enc P W' 0 (fun b => decide (b < W.heap.size)) true ts vs ds ps
  | [], vs, ds, ps, _, h, _ => by
    obtain ⟨rfl, rfl, rfl⟩ := trodAll_nil h
    exact trodAll_mk0
  | t :: ts, vs, ds, ps, ht, h, hp => by
    obtain ⟨v, vs', d, ds', p, q, rfl, rfl, rfl, h1, h2⟩ := trodAll_cons h
    simp only [List.all_cons, Bool.and_eq_true] at ht
    exact trodAll_cons_mk (Below.trod hl ht.1.1 (of_decide_eq_true ht.1.2) h1 hb (fun x hx => hp x (List.mem_append_left _ hx)))
      (trodAll_keep hl hb (by simpa using ht.2) h2 (fun x hx => hp x (List.mem_append_right _ hx)))

theorem post_of_kept2 {f : Func} {s : ChangeSpec} {apart fresh handsOn : Bool} {W W' : World} {args : Array Value} {v : Value} {ds : List (DataW H)} {before : List MemPlace} (hl : laidOutB P = true)
    (hW : DataW.Whole enc P f.params.toList s.vars apart W args.toList ds [] before) (hvars : s.vars = [])
    (hts : (f.params.toList.all fun t => P.readableRec t && decide (t < P.types.size)) = true)
    (hA : DataW.TrodAll enc P W 0 (fun _ => true) true f.params.toList args.toList ds before)
    (hres : ∀ (b : Nat) (sp : Nat → Bool) (hd : Bool), DataW.TrodAll enc P W' b sp hd f.resultTypes.toList (v.resultList f.resultTypes.size) (s.fn H (ds ++ [])).results [])
    (hargs : (s.fn H (ds ++ [])).args = ds) (hvs : (s.fn H (ds ++ [])).vars = [])
    (hk : Kept (fun _ => False) W W') : s.post enc P f apart fresh handsOn false W args v W' := by
  have hB : Below W.heap.size W W' := hk.below (Nat.le_refl _) (fun _ _ h => h)
  refine ⟨ds, [], before, [], before, [], hW, hres _ _ _, ?_, ?_, hk.frame _, fun h => by cases h⟩
  · rw [hargs]; exact trodAll_keep hl hB hts hA (fun x hx => hW.lt x hx)
  · rw [hvars, hvs]; rfl

/-- A slice of numbers, as the walk wants it. -/
theorem slice_ints {t e : TypeId} {k : IntKind} {W : World} {base : Nat} {v : Value} {d : DataW H} {ps : List MemPlace} (ht : P.underlying t = some (.slice e)) (he : P.underlying e = some (.int k)) (hc : P.cellsOf e = 1)
    (hv : Value.okWide P W .any base t v) (h : DataW.Trod enc P W 0 (fun _ => true) true t v d ps) :
    ∃ (p : Option Addr) (cap : Nat) (xs : List Int), v = .slice p xs.length cap ∧ xs.length ≤ maxLen ∧
      ∀ i x, xs[i]? = some x → (Lit.int k x).wf = true ∧ ∃ b off, p = some ⟨b, off, none⟩ ∧ b < W.heap.size ∧ W.cell? ⟨b, off + i, none⟩ = some (.int k x) := by
  obtain ⟨a0, len, cap, rfl⟩ := okWide_slice ht hv
  obtain ⟨fuel, hf⟩ := h
  rcases open_ints ht he hc hf with ⟨hcs, hx⟩ | ⟨a, len', cap', zs, hcs, _, hl, hm, hz, hx, hcell, hwz⟩
  · simp [Value.cells] at hcs
    obtain ⟨rfl, rfl, rfl⟩ := hcs
    exact ⟨none, 0, [], rfl, Nat.zero_le _, fun i x hx => by cases hx⟩
  · simp [Value.cells] at hcs
    obtain ⟨rfl, rfl, rfl⟩ := hcs
    simp only [if_true] at hz
    have hll : (zs.take len).length = len := by simp; omega
    refine ⟨some a, cap, zs.take len, by rw [hll], by omega, fun i x hx => ?_⟩
    have hi : i < len := by have := (List.getElem?_eq_some_iff.1 hx).1; omega
    rw [List.getElem?_take_of_lt hi] at hx
    have hzi : zs.getD i 0 = x := by rw [List.getD_eq_getElem?_getD, hx]; rfl
    have hmem : x ∈ zs := List.mem_of_getElem? hx
    obtain ⟨b, off, spot⟩ := a
    have hci := hcell i (by omega)
    have hspot : spot = none := by simpa [Addr.add] using World.cell?_spot (hcell 0 (by omega))
    subst hspot
    rw [hzi] at hci
    have hci2 : W.cell? ⟨b, off + i, none⟩ = some (.int k x) := by simpa [add_plain] using hci
    exact ⟨hwz x hmem, b, off, rfl, World.block_lt_of_cell? _ _ hci2, hci2⟩
end Go.Proofs.Ytfhlllmicobafaa
/- A slice that reads as pairs of numbers (structs of two fields). -/
namespace Go.Proofs.Ytfhlllmicobafaa
open Go.RowKit

def pc (l : List (Int × Int)) : List Value := l.flatMap fun x => [.int .i64 x.1, .int .i64 x.2]
theorem pc_cons (x : Int × Int) (l : List (Int × Int)) : pc (x :: l) = .int .i64 x.1 :: .int .i64 x.2 :: pc l := rfl
theorem pc_append (l m : List (Int × Int)) : pc (l ++ m) = pc l ++ pc m := by simp [pc]
theorem pc_length (l : List (Int × Int)) : (pc l).length = l.length * 2 := by
  induction l with
  | nil => rfl
  | cons x l ih => rw [pc_cons, List.length_cons, List.length_cons, ih, List.length_cons]; omega
theorem pc_get {l : List (Int × Int)} {j : Nat} {x : Int × Int} (h : l[j]? = some x) : (pc l)[j * 2]? = some (.int .i64 x.1) ∧ (pc l)[j * 2 + 1]? = some (.int .i64 x.2) := by
  induction l generalizing j with
  | nil => simp at h
  | cons y l ih =>
    cases j with
    | zero => simp at h; subst h; exact ⟨rfl, rfl⟩
    | succ j =>
      simp at h
      have := ih h
      rw [pc_cons, Nat.succ_mul]
      exact ⟨by simpa using this.1, by simpa using this.2⟩
theorem pc_one (l : List (Int × Int)) : ∀ u ∈ pc l, u.oneCell' = true := by
  intro u hu
  simp only [pc, List.mem_flatMap] at hu
  obtain ⟨x, -, hu⟩ := hu
  simp at hu
  rcases hu with rfl | rfl <;> rfl

/-- The slice v reads as the pairs xs. -/
def Prs (w : World) (v : Value) (xs : List (Int × Int)) : Prop :=
  (∃ a cap, v = .slice a 0 cap ∧ xs = []) ∨ ∃ b off cap, v = .slice (some ⟨b, off, none⟩) xs.length cap ∧ b < w.heap.size ∧ ∀ j x, xs[j]? = some x → w.cell? ⟨b, off + j * 2, none⟩ = some (.int .i64 x.1) ∧ w.cell? ⟨b, off + j * 2 + 1, none⟩ = some (.int .i64 x.2)
theorem Prs.len {w : World} {v : Value} {xs : List (Int × Int)} (h : Prs w v xs) : ∃ a cap, v = .slice a xs.length cap := by
  rcases h with ⟨a, cap, rfl, rfl⟩ | ⟨b, off, cap, rfl, -⟩
  · exact ⟨a, cap, rfl⟩
  · exact ⟨_, cap, rfl⟩
theorem Prs.pos {w : World} {v : Value} {xs : List (Int × Int)} (h : Prs w v xs) (hp : 0 < xs.length) : ∃ b off cap, v = .slice (some ⟨b, off, none⟩) xs.length cap ∧ b < w.heap.size ∧ ∀ j x, xs[j]? = some x → w.cell? ⟨b, off + j * 2, none⟩ = some (.int .i64 x.1) ∧ w.cell? ⟨b, off + j * 2 + 1, none⟩ = some (.int .i64 x.2) := by
  rcases h with ⟨a, cap, rfl, rfl⟩ | h
  · simp at hp
  · exact h
theorem Prs.nil (w : World) (a : Option Addr) (cap : Nat) : Prs w (.slice a 0 cap) [] := .inl ⟨a, cap, rfl, rfl⟩
theorem Prs.kept {S : Nat → Prop} {w w' : World} {v : Value} {xs : List (Int × Int)} (h : Prs w v xs) (K : Kept S w w') (hS : ∀ b, v.ownBlock = some b → 0 < xs.length → ¬ S b) : Prs w' v xs := by
  rcases h with h | ⟨b, off, cap, rfl, hb, hc⟩
  · exact .inl h
  · refine .inr ⟨b, off, cap, rfl, Nat.lt_of_lt_of_le hb K.size, fun j x hx => ?_⟩
    have hS' := hS b rfl (by have := (List.getElem?_eq_some_iff.1 hx).1; omega)
    exact ⟨(K.cell (a := ⟨b, off + j * 2, none⟩) hb hS').trans (hc j x hx).1, (K.cell (a := ⟨b, off + j * 2 + 1, none⟩) hb hS').trans (hc j x hx).2⟩
theorem Prs.same {w w' : World} {v : Value} {xs : List (Int × Int)} (h : Prs w v xs) (K : Kept (fun _ => False) w w') : Prs w' v xs := h.kept K (fun _ _ _ h => h)
theorem Prs.block {w : World} {v : Value} {xs : List (Int × Int)} (h : Prs w v xs) {b : Nat} (hb : v.ownBlock = some b) (hx : 0 < xs.length) : b < w.heap.size := by
  obtain ⟨b', off, cap, rfl, hb', -⟩ := h.pos hx
  simp [Value.ownBlock] at hb
  omega
theorem Prs.of_own {w : World} {base e : Nat} {v : Value} {xs : List (Int × Int)} (h : w.ownsRow base e 2 v xs.length (pc xs)) : Prs w v xs := by
  rcases h.2 with ⟨rfl, h0⟩ | ⟨g, cap, cur, rfl, hg, hh, -⟩
  · exact .inl ⟨none, 0, rfl, List.eq_nil_of_length_eq_zero h0⟩
  · refine .inr ⟨g, 0, cap, rfl, (Array.getElem?_eq_some_iff.1 hh).1, fun j x hx => ?_⟩
    have hj := (List.getElem?_eq_some_iff.1 hx).1
    rw [Nat.zero_add, h.cellAt _ (by omega), h.cellAt _ (by omega)]
    exact pc_get hx
/-- A block of pairs. -/
theorem Prs.lit {w : World} {b n cap : Nat} {cs : Array Value} {xs : List (Int × Int)} (hb : b < w.heap.size) (hn : xs.length = n) (hc : ∀ j, w.cell? ⟨b, j, none⟩ = cs[j]?) (hcs : cs.toList = pc xs) : Prs w (.slice (some ⟨b, 0, none⟩) n cap) xs := by
  subst hn
  refine .inr ⟨b, 0, cap, rfl, hb, fun j x hx => ?_⟩
  rw [Nat.zero_add, hc, hc, ← Array.getElem?_toList, ← Array.getElem?_toList, hcs]
  exact pc_get hx
theorem Prs.new {w : World} {t n cap b : Nat} {cs : Array Value} (xs : List (Int × Int)) (hb : b = w.heap.size) (hn : xs.length = n) (hcs : cs.toList = pc xs) : Prs (w.alloc (.cells cs t)) (.slice (some ⟨b, 0, none⟩) n cap) xs :=
  .lit (by simp [hb]) hn (fun j => World.cell?_alloc_at _ _ _ _ hb) hcs
/-- A part of a slice. -/
theorem Prs.at {w : World} {xs : List (Int × Int)} {b off : Nat} (hc : ∀ j x, xs[j]? = some x → w.cell? ⟨b, off + j * 2, none⟩ = some (.int .i64 x.1) ∧ w.cell? ⟨b, off + j * 2 + 1, none⟩ = some (.int .i64 x.2)) {j : Nat} (hj : j < xs.length) : w.cell? ⟨b, off + j * 2, none⟩ = some (.int .i64 xs[j].1) ∧ w.cell? ⟨b, off + j * 2 + 1, none⟩ = some (.int .i64 xs[j].2) :=
  hc j _ (List.getElem?_eq_getElem hj)
end Go.Proofs.Ytfhlllmicobafaa
/- Arguments that are slices of structs of two numbers, opened as the walk wants them. -/
namespace Go.Proofs.Ytfhlllmicobafaa
open Go.RowKit Go.ChangeShapes Go.WideShapes Go.ChangeAt Go.Deep
variable {H : Type} {enc : TypeId × Value → H} {P : Program}

/-- A nil slice has no room. -/
def Nz (v : Value) : Prop := ∀ n c, v = .slice none n c → n = 0 ∧ c = 0
theorem Nz.nil : Nz (.slice none 0 0) := fun n c h => by injection h with _ h2 h3; omega
theorem Nz.some (a : Addr) (n c : Nat) : Nz (.slice (some a) n c) := fun n c h => by injection h with h _ _; cases h
theorem Nz.own {w : World} {base e size : Nat} {v : Value} {n : Nat} {xs : List Value} (h : w.ownsRow base e size v n xs) : Nz v := by
  rcases h.2 with ⟨rfl, -⟩ | ⟨g, cap, cur, rfl, -⟩
  · exact Nz.nil
  · exact Nz.some _ _ _

theorem slice_pairs {t e : TypeId} {f0 f1 : Field} {W : World} {base : Nat} {v : Value} {d : DataW H} {ps : List MemPlace} (ht : P.underlying t = some (.slice e)) (he : P.underlying e = some (.struct #[f0, f1])) (ce : P.cellsOf e = 2)
    (o0 : f0.offset = 0) (o1 : f1.offset = 1) (c0 : P.cellsOf f0.type = 1) (c1 : P.cellsOf f1.type = 1) (u0 : P.underlying f0.type = some (.int .i64)) (u1 : P.underlying f1.type = some (.int .i64))
    (hv : Value.okWide P W .any base t v) (h : DataW.Trod enc P W 0 (fun _ => true) true t v d ps) :
    ∃ xs : List (Int × Int), Prs W v xs ∧ Nz v ∧ xs.length ≤ maxLen ∧ ∀ x ∈ xs, (Lit.int .i64 x.1).wf = true ∧ (Lit.int .i64 x.2).wf = true := by
  obtain ⟨a0, len, cap, rfl⟩ := okWide_slice ht hv
  obtain ⟨fuel, hf⟩ := h
  rcases open_slice_pairs ht he ce o0 o1 c0 c1 hf with ⟨hcs, hx⟩ | ⟨a, len', cap', m, n, V0, V1, D0, D1, P0, P1, hcs, _, hl, hm, hmm, hx, hcell⟩
  · simp [Value.cells] at hcs
    obtain ⟨rfl, rfl, rfl⟩ := hcs
    exact ⟨[], Prs.nil _ _ _, Nz.nil, Nat.zero_le _, by simp⟩
  · simp [Value.cells] at hcs
    obtain ⟨rfl, rfl, rfl⟩ := hcs
    simp only [if_true] at hmm
    subst hmm
    have each : ∀ i, i < len → ∃ x : Int × Int, (W.cell? (a.add (i * 2)) = some (.int .i64 x.1) ∧ W.cell? (a.add (i * 2 + 1)) = some (.int .i64 x.2)) ∧ (Lit.int .i64 x.1).wf = true ∧ (Lit.int .i64 x.2).wf = true := fun i hi => by
      obtain ⟨g0, g1, g2, g3⟩ := hcell i (by omega)
      obtain ⟨n0, e0, -, w0⟩ := DataW.trod_int u0 g2
      obtain ⟨n1, e1, -, w1⟩ := DataW.trod_int u1 g3
      injection e0 with e0 _
      injection e1 with e1 _
      exact ⟨(n0, n1), ⟨by rw [g0, e0], by rw [g1, e1]⟩, w0, w1⟩
    obtain ⟨q, hq⟩ := choose_lt each
    refine ⟨(List.range len).map q, ?_, Nz.some _ _ _, by simp; omega, fun x hx => ?_⟩
    · by_cases h0 : len = 0
      · subst h0; exact Prs.nil _ _ _
      · obtain ⟨b, off, spot⟩ := a
        have hspot : spot = none := by simpa [Addr.add] using World.cell?_spot ((hq 0 (by omega)).1.1)
        subst hspot
        have hb := World.block_lt_of_cell? _ _ ((hq 0 (by omega)).1.1)
        simp only [add_plain] at hb
        refine .inr ⟨b, off, _, by rw [List.length_map, List.length_range], hb, fun j x hx => ?_⟩
        have hj : j < len := by have := (List.getElem?_eq_some_iff.1 hx).1; simpa using this
        rw [List.getElem?_map, List.getElem?_range hj] at hx
        simp at hx
        subst hx
        have := (hq j hj).1
        simpa [add_plain, Nat.add_assoc] using this
    · simp at hx
      obtain ⟨i, hi, rfl⟩ := hx
      exact (hq i hi).2
end Go.Proofs.Ytfhlllmicobafaa
/- append of whatever reads as numbers, to a row of the call's own. -/
namespace Go.Proofs.Ytfhlllmicobafaa
open Go.RowKit
variable {P : Program}
theorem src_none {size : Nat} {tx e' : TypeId} (w : World) (hk : P.underlying tx = some (.slice e')) (a : Option Addr) (c : Nat) : Src P size tx (.slice a 0 c) 0 [] w := by
  cases a with
  | none => exact Src.ofNil w hk c
  | some a => exact Src.ofSlice w hk a 0 c [] (by simp) (fun j u h => by simp at h) (fun u h => by cases h)
theorem wpList_appInts {t e : Nat} (E : ElemOk P t e 1 8) {ops : Array Oper} {rest : List Oper} {o : Oper} {a : Act} {Q : Exit → Act → World → Prop} (hgd : o.guard = none) (s x : Operand)
    (ho : o.op = .call { callee := .builtin .append, args := #[s, x], argTypes := #[t, t] }) {W : World} (base : Nat) (v u : Value) (n : Nat) (xs : List Value) (ys : List Int) (hs : a.eval s = v) (hx : a.eval x = u)
    (hown : W.ownsRow base e 1 v n xs) (hu : Ints W u ys) (h63 : n + ys.length ≤ 1000000000) (hbase : base ≤ W.heap.size)
    (h : ∀ v' w', w'.ownsRow base e 1 v' (n + ys.length) (xs ++ ys.map (Value.int .i64)) → Kept (fun b => v.ownBlock = some b) W w' → wpList P ops Q rest (a.put o.dst v') w') :
    wpList P ops Q (o :: rest) a W := by
  rcases hu with ⟨b, cap, rfl, rfl⟩ | ⟨b, off, cap, rfl, hb, hc⟩
  · have h' := h v W (by simpa using hown) (Kept.refl _ _)
    obtain ⟨i, z, hi, -, -, -, -⟩ := E.info
    obtain ⟨av, cv, rfl, hcv⟩ : ∃ av cv, v = .slice av n cv ∧ n ≤ cv := by
      rcases hown.2 with ⟨rfl, h0⟩ | ⟨g, cv, cur, rfl, hbg, hg, hnc, -⟩
      · exact ⟨none, 0, by rw [h0], by omega⟩
      · exact ⟨_, cv, rfl, hnc⟩
    have hr := run_append_nothing (P := P) W t t o.type e i E.under hi av n cv hcv (.slice b 0 cap) (src_none W E.under b cap)
    refine wpList_plain hgd fun _ hK => ?_
    unfold Oper.wp execOp
    simp only [ho, resolve, invoke, builtin, Sem.run_bind, Sem.run_pure, Result.andThen_ok, List.map_toArray, List.map_cons, List.map_nil, hs, hx, hr]
    exact hK _ _ h'
  · refine wpList_appA E hgd s x ho base v n xs hs hown b off ys.length cap (ys.map (Value.int .i64)) hx (by simp) ?_ ?_ (by unfold maxLen; omega) (by omega) hbase h
    · intro u hu
      obtain ⟨y, -, rfl⟩ := List.mem_map.1 hu
      rfl
    · intro j u hj
      rw [List.getElem?_map] at hj
      obtain ⟨y, hy, rfl⟩ := Option.map_eq_some_iff.1 hj
      exact hc j y hy
/-- A row without elements, just made. -/
theorem own_empty (w : World) (t size : Nat) : (w.alloc (.cells #[] t)).ownsRow w.heap.size t size (.slice (some ⟨w.heap.size, 0, none⟩) 0 0) 0 [] := by
  refine ⟨by simp, .inr ⟨w.heap.size, 0, #[], rfl, Nat.le_refl _, ?_, by simp, by simp, by simp, by simp⟩⟩
  show (w.heap.push _)[w.heap.size]? = _
  rw [Array.getElem?_push_size]
/-- One cell of a row of the call's own is stored. -/
theorem ownsRow_putAt {W : World} {base e size g n cg : Nat} {xs : List Value} (h : W.ownsRow base e size (.slice (some ⟨g, 0, none⟩) n cg) n xs) (j : Nat) (y : Value) :
    (W.setCell ⟨g, j, none⟩ y).ownsRow base e size (.slice (some ⟨g, 0, none⟩) n cg) n (xs.set j y) := by
  refine ⟨by rw [List.length_set]; exact h.1, ?_⟩
  rcases h.2 with ⟨q, -⟩ | ⟨g', cap', cur, q, hg, hh, h1, h2, h3, h4⟩
  · cases q
  · injection q with q q2 q3
    injection q with q
    injection q with q
    subst q q3
    refine .inr ⟨g, cg, cur.setIfInBounds j y, rfl, hg, ?_, h1, h2, by simpa using h3, ?_⟩
    · simp [World.setCell, Array.getElem?_modify, hh]
    · rw [Array.toList_setIfInBounds, List.take_set, h4]
theorem ownsRow_frozen {W : World} {base e size g n cg : Nat} {xs : List Value} (h : W.ownsRow base e size (.slice (some ⟨g, 0, none⟩) n cg) n xs) (j : Nat) : W.frozen? ⟨g, j, none⟩ = false := by
  rcases h.2 with ⟨q, -⟩ | ⟨g', cap', cur, q, hg, hh, -⟩
  · cases q
  · injection q with q q2 q3
    injection q with q
    injection q with q
    subst q
    simp [World.frozen?, hh]
end Go.Proofs.Ytfhlllmicobafaa
/- Arguments opened as the walk wants them: a slice of numbers, a struct of two numbers. -/
namespace Go.Proofs.Ytfhlllmicobafaa
open Go.RowKit Go.ChangeShapes Go.WideShapes Go.ChangeAt
variable {H : Type} {enc : TypeId × Value → H} {P : Program}

theorem open_ints2 {t e : TypeId} {k : IntKind} {W : World} {base : Nat} {v : Value} {d : DataW H} {ps : List MemPlace} (ht : P.underlying t = some (.slice e)) (he : P.underlying e = some (.int k)) (hc : P.cellsOf e = 1)
    (hv : Value.okWide P W .any base t v) (h : DataW.Trod enc P W 0 (fun _ => true) true t v d ps) :
    ∃ xs : List Int, IntsK k W v xs ∧ xs.length ≤ maxLen ∧ ∀ x ∈ xs, (Lit.int k x).wf = true := by
  obtain ⟨p, cap, xs, rfl, hl, hx⟩ := slice_ints ht he hc hv h
  refine ⟨xs, ?_, hl, fun x hx' => ?_⟩
  · rcases Nat.eq_zero_or_pos xs.length with h0 | h0
    · obtain rfl := List.eq_nil_of_length_eq_zero h0
      exact .inl ⟨p, cap, rfl, rfl⟩
    · obtain ⟨-, b, off, rfl, hb, -⟩ := hx 0 _ (List.getElem?_eq_getElem h0)
      refine .inr ⟨b, off, cap, rfl, hb, fun j x hj => ?_⟩
      obtain ⟨-, b', off', e, -, hc⟩ := hx j x hj
      injection e with e
      injection e with e1 e2 _
      subst e1 e2
      exact hc
  · obtain ⟨i, hi⟩ := List.getElem?_of_mem hx'
    exact (hx i x hi).1
theorem open_two {t : TypeId} {f0 f1 : Field} {k0 k1 : IntKind} {W : World} {base : Nat} {v : Value} {d : DataW H} {ps : List MemPlace} (ht : P.underlying t = some (.struct #[f0, f1])) (hc : P.cellsOf t = 2)
    (o0 : f0.offset = 0) (o1 : f1.offset = 1) (c0 : P.cellsOf f0.type = 1) (c1 : P.cellsOf f1.type = 1) (u0 : P.underlying f0.type = some (.int k0)) (u1 : P.underlying f1.type = some (.int k1))
    (hv : Value.okWide P W .any base t v) (h : DataW.Trod enc P W 0 (fun _ => true) true t v d ps) :
    ∃ a b : Int, v = .agg #[.int k0 a, .int k1 b] ∧ (Lit.int k0 a).wf = true ∧ (Lit.int k1 b).wf = true := by
  simp only [Value.okWide, ht] at hv
  obtain ⟨cs, rfl, h2, -⟩ := hv
  rw [hc] at h2
  obtain ⟨l⟩ := cs
  match l, h2 with
  | [x0, x1], _ =>
    obtain ⟨fuel, hf⟩ := h
    obtain ⟨y0, y1, n, -, -, g0, g1⟩ := trod_struct2 ht hf
    simp only [Value.cells, o0, o1, c0, c1] at g0 g1
    obtain ⟨n0, e0, -, w0⟩ := DataW.trod_int u0 g0
    obtain ⟨n1, e1, -, w1⟩ := DataW.trod_int u1 g1
    simp at e0 e1
    subst e0 e1
    exact ⟨n0, n1, rfl, w0, w1⟩
end Go.Proofs.Ytfhlllmicobafaa
/- A range over a function, said in 'Kept'. -/
namespace Go.Proofs.Ytfhlllmicobafaa
open Go.RowKit Go.Shelf

/-- A block from B on that holds no cells. -/
def NoCells (B : Nat) (W : World) (b : Nat) : Prop := B ≤ b ∧ ∃ o : Obj, W.heap[b]? = some o ∧ o.isCells = false

theorem ownFrom_of {β : Type} {B : Nat} {I : β → World → Prop} (h : ∀ s W W', I s W → Kept (NoCells B W) W W' → I s W') : OwnFrom B I :=
  fun s W W' _ hs hg hr => h s W W' hs ((Kept.of_grown hg).mono fun b _ hb => hr b hb)

theorem keepsFrom_of_kept {B : Nat} {S : Nat → Prop} {W W' : World} (h : Kept S W W') (hS : ∀ b, S b → ¬ NoCells B W b) : KeepsFrom B W W' :=
  ⟨h.size, fun k o hB hk ho => (h.block k (Array.getElem?_eq_some_iff.1 hk).1 (fun s => hS k s ⟨hB, o, hk, ho⟩)).trans hk⟩

theorem ownsRow_cells {w : World} {base e size : Nat} {v : Value} {n : Nat} {xs : List Value} (h : w.ownsRow base e size v n xs) {B b : Nat} (hb : v.ownBlock = some b) : ¬ NoCells B w b := by
  rintro ⟨-, o, ho, hc⟩
  rcases h.2 with ⟨rfl, -⟩ | ⟨g, cap, cur, rfl, hg, hh, -⟩
  · simp [Value.ownBlock] at hb
  · simp [Value.ownBlock] at hb
    subst hb
    rw [hh] at ho
    obtain rfl := Option.some.inj ho
    simp [Obj.isCells] at hc
theorem boxed_cells {W : World} {b t : Nat} {v : Value} (h : Boxed W b t v) {B : Nat} : ¬ NoCells B W b := by
  rintro ⟨-, o, ho, hc⟩
  rw [show W.heap[b]? = _ from h] at ho
  obtain rfl := Option.some.inj ho
  simp [Obj.isCells] at hc
theorem boxed_keptS {S : Nat → Prop} {W W' : World} {b t : Nat} {v : Value} (h : Boxed W b t v) (K : Kept S W W') (hS : ¬ S b) : Boxed W' b t v := (K.block b h.lt hS).trans h

theorem kept_putObj {S : Nat → Prop} (W : World) (l : Nat) (o : Obj) (h : l < W.heap.size → S l) : Kept S W (W.putObj l o) :=
  (Kept.of_grown (grownBy_putObj' W l o)).mono fun b hb e => by injection e with e; subst e; exact h hb
end Go.Proofs.Ytfhlllmicobafaa
/- A range over a function that writes blocks of its own (a captured variable), whose body is never left early. -/
namespace Go.Proofs.Ytfhlllmicobafaa
open Go.RowKit Go.Shelf
variable {F : Fence} {n : Nat} {P : Program}

/-- How the body of a round ends. -/
def ownPostW {α : Type} (B : Nat) (Kp : World → World → Prop) (I : List α → World → Prop) (xs : List α) (W : World) : Exit → Act → World → Prop
  | .normal, _, W' => KeepsFrom B W W' ∧ Kp W W' ∧ I xs W'
  | _, _, _ => False

/-- What a function that is ranged over promises: it writes the blocks G alone. -/
def SeqW {α : Type} (F : Fence) (n : Nat) (P : Program) (g : Nat) (lb : Array Value) (encs : α → Array Value) (G : Nat → Prop) (Kp : World → World → Prop) (S Sx : List α → Prop) (w : World) : Prop :=
  ∀ (l : Nat) (J : List α → World → Prop) (W : World), Kept (fun _ => False) w W → (∀ s A B, J s A → Kept G A B → J s B) →
    (∀ pre x W1, J pre W1 → Sx (pre ++ [x]) → YieldAt F (n - 1) P l (encs x) W1 fun e W' => e = .returned (.bool true) ∧ J (pre ++ [x]) W' ∧ Kp W1 W') →
    J [] W → CallsIn F n P g (#[.func (.yield l) #[] #[]] ++ lb) W fun e W' => (∃ v, e = .returned v) ∧ ∃ xs, S xs ∧ J xs W'

theorem wpIn_rangeFunc_W {α : Type} {g : Operand} {ps : Array Tmp} {assign body : Code} {Q : Exit → Act → World → Prop} {a : Act} {w : World}
    (hro : F.round = none) (h1 : 1 ≤ n) {gf : Nat} {lb : Array Value} (hg : a.eval g = .func (.func gf) #[] lb) (hFg : F.fn gf) (eg : ∀ args w, (callFunc gf args).run P w = .ok (.enter gf args) w)
    {encs : α → Array Value} {G : Nat → Prop} {Kp : World → World → Prop} {S Sx : List α → Prop} (hseq : SeqW F (n - 1) P gf lb encs G Kp S Sx w) (hG : ∀ b, G b → b < w.heap.size)
    (hKt : ∀ {A B C : World}, Kp A B → Kp B C → Kp A C) (hKb : ∀ (W : World) (l : Nat) (o : Obj), w.heap.size ≤ l → Kp W (W.putObj l o)) (hps : ∀ x, (encs x).size = ps.size)
    (I : List α → World → Prop) (hI : ∀ s A B, I s A → Kept (fun b => G b ∨ NoCells w.heap.size A b) A B → I s B) (h0 : I [] w) (Ax : α → Act → World → Prop) (hAx : ∀ x a' A B, Ax x a' A → Kept (fun b => NoCells w.heap.size A b) A B → Ax x a' B)
    (hassign : ∀ (l : Nat) (pre : List α) (x : α) (W : World) (K : Act → World → Prop), I pre W → (∀ a' W', KeepsFrom w.heap.size W W' → Kp W W' → I pre W' → Ax x a' W' → K a' W') →
      assign.wpIn (F.inRound l) (n - 1 - 1) P (Exit.then K (fun _ _ _ => False)) { tmps := (ps.zip (encs x)).foldl (fun t (p, v) => t.setIfInBounds p v) a.tmps, defers := [] } W)
    (hbody : ∀ (l : Nat) (pre : List α) (x : α) (a' : Act) (W : World), I pre W → Ax x a' W → Sx (pre ++ [x]) → body.wpIn (F.inRound l) (n - 1 - 1) P (ownPostW w.heap.size Kp I (pre ++ [x]) W) a' W)
    (hdone : ∀ (D : Nat) (xs : List α) (W : World), w.heap.size ≤ D → S xs → I xs W → W.heap[D]? = some (.deferred (some [])) → Q .normal { a with defers := { target := .collected D, args := #[] } :: a.defers } W) :
    (Code.rangeFunc g ps assign body).wpIn F n P Q a w := by
  refine wpIn_rangeFunc ?_
  intro fn hfn
  rw [hro]
  obtain ⟨rec, hrec⟩ : ∃ rec : LoopState → Option Code → Loop, rec = fun st pe => { state := st, pending := pe, fn, tmps := a.tmps, params := ps, assign, body, defers := w.heap.size } := ⟨_, rfl⟩
  obtain ⟨W1, hW1⟩ : ∃ W1, (w.alloc (.deferred (some []))).alloc (.loop (rec .ready none)) = W1 := ⟨_, rfl⟩
  have hkw : Kept (fun _ => False) w W1 := by rw [← hW1]; exact ((Kept.refl _ _).alloc _).alloc _
  have hL1 : W1.heap[w.heap.size + 1]? = some (.loop (rec .ready none)) := by
    rw [← hW1]; have := World.alloc_heap_new (w.alloc (.deferred (some []))) (.loop (rec .ready none)); rwa [World.size_alloc] at this
  have hK1 : W1.heap[w.heap.size]? = some (.deferred (some [])) := by
    rw [← hW1]; exact (Below.heap_alloc _ _ _ (by simp)).trans (World.alloc_heap_new w _)
  have hput : ∀ {s : List α} {W : World} {l : Nat} {o : Obj} (o' : Obj), I s W → w.heap.size ≤ l → W.heap[l]? = some o → o.isCells = false → I s (W.putObj l o') := fun {s W l o} o' hs hl ho hc =>
    hI s W _ hs ((kept_putObj (S := fun b => b = l) W l o' (fun _ => rfl)).mono fun b _ e => by subst e; exact .inr ⟨hl, o, ho, hc⟩)
  have hI1 : I [] W1 := hI _ _ _ h0 (hkw.mono fun _ _ h => h.elim)
  have hnG : ∀ {A B : World} {l : Nat} {o : Obj}, w.heap.size ≤ l → Kept G A B → A.heap[l]? = some o → B.heap[l]? = some o := fun {A B l o} hl K h =>
    (K.block l (Array.getElem?_eq_some_iff.1 h).1 (fun q => by have := hG l q; omega)).trans h
  refine ⟨w.heap.size + 1, [{ target := .collected w.heap.size, args := #[] }], W1, { target := .fn (.func gf) lb, args := #[.func (.yield (w.heap.size + 1)) #[] #[]] }, W1, gf,
    #[.func (.yield (w.heap.size + 1)) #[] #[]] ++ lb, W1, ?_, ?_, ?_, ?_, fun _ => h1, ?_⟩
  · rw [← hW1, hrec]; exact run_enterLoop_outer _ _ _ _ _
  · simp only [resolve, hg]
    simp [go_sem]
  · intro f' hf'; simp [Target.leads] at hf'; subst hf'; exact hFg
  · simp [invoke, go_sem, eg]
  · refine (hseq (w.heap.size + 1)
      (fun pre W => I pre W ∧ W.heap[w.heap.size + 1]? = some (.loop (rec .ready none)) ∧ W.heap[w.heap.size]? = some (.deferred (some [])))
      W1 hkw (fun s A B hs K => ⟨hI s A B hs.1 (K.mono fun _ _ h => .inl h), hnG (by omega) K hs.2.1, hnG (Nat.le_refl _) K hs.2.2⟩) ?_ ⟨hI1, hL1, hK1⟩).mono ?_
    · rintro pre x W ⟨hi, hl, hk⟩ hlen
      have hy := run_yield (P := P) (args := encs x) hl (by rw [hrec]; exact hps x)
      rw [hrec] at hy
      refine ⟨fn, _, assign, body, hy, roundIn_of_wpIn hfn (hassign _ pre x W _ hi ?_)⟩
      intro a' Wa hka hkpa hia hax
      have hl := hka.same _ _ (by omega) hl rfl
      have hk := hka.same _ _ (Nat.le_refl _) hk rfl
      have hlt : w.heap.size + 1 < Wa.heap.size := (Array.getElem?_eq_some_iff.1 hl).1
      refine ⟨_, run_beginRound hl (by rw [hrec]), ?_⟩
      have hl2 : (Wa.putObj (w.heap.size + 1) (.loop { rec .ready none with state := .busy })).heap[w.heap.size + 1]? = some (.loop { rec .ready none with state := .busy }) := World.putObj_heap_same hlt
      have hk2 : (Wa.putObj (w.heap.size + 1) (.loop { rec .ready none with state := .busy })).heap[w.heap.size]? = some (.deferred (some [])) := (World.putObj_heap_other (by omega)).trans hk
      have hw2 : Kp W (Wa.putObj (w.heap.size + 1) (.loop { rec .ready none with state := .busy })) := hKt hkpa (hKb _ _ _ (by omega))
      have hax2 : Ax x a' (Wa.putObj (w.heap.size + 1) (.loop { rec .ready none with state := .busy })) := hAx _ _ _ _ hax ((kept_putObj (S := fun b => b = w.heap.size + 1) Wa _ _ (fun _ => rfl)).mono fun b _ e => by subst e; exact ⟨by omega, _, hl, rfl⟩)
      refine wpIn_mono (hbody _ pre x a' _ (hput _ hia (by omega) hl rfl) hax2 hlen) ?_
      rintro e a3 W3 hp
      cases e with
      | normal =>
        obtain ⟨hk3, hkp3, hi3⟩ := hp
        have hl3 := hk3.same _ _ (by omega) hl2 rfl
        have hr := run_endRound (P := P) none hl3
        rw [hrec] at hr hl3
        have hl4 : (W3.putObj (w.heap.size + 1) (.loop (rec .ready none))).heap[w.heap.size + 1]? = some (.loop (rec .ready none)) := World.putObj_heap_same (Array.getElem?_eq_some_iff.1 hl3).1
        have hk4 : (W3.putObj (w.heap.size + 1) (.loop (rec .ready none))).heap[w.heap.size]? = some (.deferred (some [])) := (World.putObj_heap_other (by omega)).trans (hk3.same _ _ (Nat.le_refl _) hk2 rfl)
        rw [hrec] at hl4 hk4 hw2 hkp3
        refine ⟨_, _, hr, rfl, ⟨hput _ hi3 (by omega) hl3 rfl, ?_, ?_⟩, hKt (hKt hw2 hkp3) (hKb _ _ _ (by omega))⟩
        · rw [hrec]; exact hl4
        · exact hk4
      | ret => exact hp.elim
      | exit id => exact hp.elim
      | goto t => exact hp.elim
      | panic ch => exact hp.elim
      | outgrown => exact hp.elim
    · rintro e W2 ⟨⟨v, rfl⟩, xs, hS, hi, hl, hk⟩
      exact ⟨none, _, by have := run_endLoop (P := P) hl (by rw [hrec]; simp); rw [hrec] at this; exact this, hdone _ xs _ (Nat.le_refl _) hS (hput _ hi (by omega) hl rfl) ((World.putObj_heap_other (by omega)).trans hk)⟩
end Go.Proofs.Ytfhlllmicobafaa
/- Two appends as steps of a region that draws: whatever reads as numbers, to an empty slice; one more number. -/
namespace Go.Proofs.Ytfhlllmicobafaa
open Go.RowKit
variable {P : Program}

/-- A row that the call has made, or an empty slice without room. -/
def Fr (B e : Nat) (w : World) (v : Value) (ys : List Int) : Prop := (ys = [] ∧ ∃ b, v = .slice b 0 0) ∨ 0 < ys.length ∧ ∃ base, B ≤ base ∧ base ≤ w.heap.size ∧ w.ownsRow base e 1 v ys.length (ys.map (Value.int .i64))
theorem Fr.kept {B e : Nat} {w w' : World} {v : Value} {ys : List Int} (h : Fr B e w v ys) (K : Kept (fun _ => False) w w') : Fr B e w' v ys := by
  rcases h with h | ⟨h0, base, hB, hb, ho⟩
  · exact .inl h
  · exact .inr ⟨h0, base, hB, Nat.le_trans hb K.size, ownsRow_kept ho K (fun _ _ _ h => h)⟩
theorem Fr.ints {B e : Nat} {w : World} {v : Value} {ys : List Int} (h : Fr B e w v ys) : Ints w v ys := by
  rcases h with ⟨rfl, b, rfl⟩ | ⟨h0, base, hB, hb, ho⟩
  · exact .inl ⟨b, 0, rfl, rfl⟩
  · exact IntsK.of_own ho
theorem src_ints {t e : Nat} {w : World} {u : Value} {ys : List Int} (hk : P.underlying t = some (.slice e)) (hu : Ints w u ys) : Src P 1 t u ys.length (ys.map (Value.int .i64)) w := by
  rcases hu with ⟨b, cap, rfl, rfl⟩ | ⟨b, off, cap, rfl, hb, hc⟩
  · exact src_none w hk b cap
  · refine Src.ofSlice w hk ⟨b, off, none⟩ ys.length cap _ (by simp) (fun j u hj => ?_) (fun u hu => ?_)
    · rw [List.getElem?_map] at hj
      obtain ⟨y, hy, rfl⟩ := Option.map_eq_some_iff.1 hj
      rw [Addr.add_mid]
      exact hc j y hy
    · obtain ⟨y, -, rfl⟩ := List.mem_map.1 hu
      rfl
theorem run_app0 {t e ty : Nat} (E : ElemOk P t e 1 8) (w : World) (b : Option Addr) {u : Value} {ys : List Int} (hu : Ints w u ys) (hl : ys.length ≤ 1000000) {B : Nat} (hB : B ≤ w.heap.size) :
    ∃ v' w', (Builtin.append_ #[t, t] ty #[.slice b 0 0, u]).run P w = .ok v' w' ∧ Fr B e w' v' ys ∧ Kept (fun _ => False) w w' := by
  obtain ⟨i, z, hi, hz, hsz, hby, hzs⟩ := E.info
  have hs := src_ints E.under hu
  rcases Nat.eq_zero_or_pos ys.length with h0 | h0
  · obtain rfl := List.eq_nil_of_length_eq_zero h0
    exact ⟨_, w, run_append_nothing w t t ty e i E.under hi b 0 0 (Nat.le_refl _) u (by rw [hsz]; exact hs), .inl ⟨rfl, b, rfl⟩, Kept.refl _ _⟩
  · have hr := run_append_grow_src (P := P) w t t ty e i z E.under hi hz b 0 0 [] ((src_none (size := i.size) w.drew E.under b 0).cells) u ys.length (ys.map (Value.int .i64)) (by rw [hsz]; exact hs) (by omega) (by omega)
      (growslice_ok (n := 0) (m := ys.length) (cap := 0) (b := i.bytes) (by omega) (by rw [hby]; omega))
    refine ⟨_, _, hr, .inr ⟨h0, w.heap.size, hB, by simp, ?_⟩, ((Kept.refl _ w).drew).alloc _⟩
    have hge := grownCap_ge w (0 + ys.length) 0 e
    have hcm : grownCap w (0 + ys.length) 0 e ≤ maxLen := grownCap_le_maxLen w (0 + ys.length) 0 e (by unfold maxLen; omega)
    rw [Nat.zero_add] at *
    refine ⟨by simp, .inr ⟨w.heap.size, _, _, rfl, Nat.le_refl _, heap_alloc_new w.drew _, hge, hcm, ?_, ?_⟩⟩
    · simp only [Array.size_append, List.size_toArray, size_zeroCells, hzs, List.length_append, List.length_map, List.length_nil]
      omega
    · simp only [List.nil_append, Array.toList_append]
      exact List.take_left' (by simp)
theorem run_app1 {t e ty : Nat} (E : ElemOk P t e 1 8) (w : World) {v u : Value} {ys zs : List Int} {B : Nat} (hv : Fr B e w v ys) (hu : Ints w u zs) (hl : ys.length + zs.length ≤ 1000000) (hB : B ≤ w.heap.size) :
    ∃ v' w', (Builtin.append_ #[t, t] ty #[v, u]).run P w = .ok v' w' ∧ Ints w' v' (ys ++ zs) ∧ Kept (fun b => B ≤ b) w w' := by
  obtain ⟨i, z, hi, hz, hsz, hby, hzs⟩ := E.info
  rcases hv with ⟨rfl, b, rfl⟩ | ⟨h0, base, hBb, hb, ho⟩
  · obtain ⟨v', w', h1, h2, h3⟩ := run_app0 (ty := ty) E w b hu (by simpa using hl) hB
    exact ⟨v', w', h1, by simpa using h2.ints, h3.mono fun _ _ h => h.elim⟩
  · rcases hu with ⟨a, cap, rfl, rfl⟩ | ⟨a, off, cap, rfl, hab, hc⟩
    · obtain ⟨g, cg, rfl, hg⟩ := ownsRow_pos ho h0
      have hcg : ys.length ≤ cg := by
        rcases ho.2 with ⟨q, -⟩ | ⟨g', cap', cur, q, _, _, h1, -⟩
        · cases q
        · injection q with _ _ e3; omega
      refine ⟨_, w, run_append_nothing w t t ty e i E.under hi _ ys.length cg hcg _ (by rw [hsz]; exact src_none w E.under a cap), ?_, Kept.refl _ _⟩
      rw [List.append_nil]
      exact IntsK.of_own ho
    · obtain ⟨v', w', h1, h2, h3, -⟩ := run_append_own (P := P) w base t ty e i z 1 8 E.under hi hz hsz hby hzs (by decide) v ys.length _ ho ⟨a, off, none⟩ zs.length cap (zs.map (Value.int .i64)) (by simp)
        (fun j u hj => by
          rw [List.getElem?_map] at hj
          obtain ⟨y, hy, rfl⟩ := Option.map_eq_some_iff.1 hj
          rw [Addr.add_mid]
          exact hc j y hy) (fun u hu => by obtain ⟨y, -, rfl⟩ := List.mem_map.1 hu; rfl) (by unfold maxLen; omega) (by omega) hb
      refine ⟨v', w', h1, ?_, (Kept.of_grown h3).mono fun b _ h => Nat.le_trans hBb (ownsRow_block ho h).1⟩
      refine IntsK.of_own (base := base) (e := e) ?_
      rw [List.length_append, List.map_append]
      exact h2
theorem step_app0 {t e : Nat} {ops : Array Oper} {o : Oper} {a : Act} {w : World} {K : Act → World → Prop} {Q : Exit → Act → World → Prop} {R : Prop} (hg : o.guard = none) (s x : Operand)
    (hop : o.op = Op.call { callee := Callee.builtin Builtin.append, args := #[s, x], argTypes := #[t, t] }) (E : ElemOk P t e 1 8) (B : Nat) (b : Option Addr) (u : Value) (ys : List Int)
    (hs : a.eval s = .slice b 0 0) (hx : a.eval x = u) (hu : Ints w u ys) (hl : ys.length ≤ 1000000) (hB : B ≤ w.heap.size)
    (hK : ∀ v' w', Fr B e w' v' ys → Kept (fun _ => False) w w' → K (a.put o.dst v') w') : if Region.wanted o (yielded ops a.tmps) = true then Oper.wp P o a w K Q else R := by
  have hw : Region.wanted o (yielded ops a.tmps) = true := by simp [Region.wanted, hg]
  rw [if_pos hw]
  obtain ⟨v', w', hrun, h2, h3⟩ := run_app0 (P := P) (ty := o.type) E w b hu hl hB
  unfold Oper.wp
  simp [execOp, hop, resolve, invoke, builtin, hs, hx, hrun, Result.andThen]
  exact hK v' w' h2 h3
theorem step_app1 {t e : Nat} {ops : Array Oper} {o : Oper} {a : Act} {w : World} {K : Act → World → Prop} {Q : Exit → Act → World → Prop} {R : Prop} (hg : o.guard = none) (s x : Operand)
    (hop : o.op = Op.call { callee := Callee.builtin Builtin.append, args := #[s, x], argTypes := #[t, t] }) (E : ElemOk P t e 1 8) (B : Nat) (v u : Value) (ys zs : List Int)
    (hs : a.eval s = v) (hx : a.eval x = u) (hv : Fr B e w v ys) (hu : Ints w u zs) (hl : ys.length + zs.length ≤ 1000000) (hB : B ≤ w.heap.size)
    (hK : ∀ v' w', Ints w' v' (ys ++ zs) → Kept (fun b => B ≤ b) w w' → K (a.put o.dst v') w') : if Region.wanted o (yielded ops a.tmps) = true then Oper.wp P o a w K Q else R := by
  have hw : Region.wanted o (yielded ops a.tmps) = true := by simp [Region.wanted, hg]
  rw [if_pos hw]
  obtain ⟨v', w', hrun, h2, h3⟩ := run_app1 (P := P) (ty := o.type) E w hv hu hl hB
  unfold Oper.wp
  simp [execOp, hop, resolve, invoke, builtin, hs, hx, hrun, Result.andThen]
  exact hK v' w' h2 h3
theorem one_int {w : World} {b : Nat} {x : Int} (hb : b < w.heap.size) (hc : w.cell? ⟨b, 0, none⟩ = some (.int .i64 x)) : Ints w (.slice (some ⟨b, 0, none⟩) 1 1) [x] := by
  refine .inr ⟨b, 0, 1, rfl, hb, fun j y hj => ?_⟩
  cases j with
  | zero => simp at hj; subst hj; exact hc
  | succ j => simp at hj
end Go.Proofs.Ytfhlllmicobafaa
/- make of a slice of one-cell elements. -/
namespace Go.Proofs.Ytfhlllmicobafaa
open Go.RowKit
theorem madeCells_one' (z : Value) (n : Nat) : madeCells #[z] n = Array.replicate n z := by
  apply Array.ext
  · simp [madeCells]
  · intro i h1 h2
    simp [madeCells, Nat.mod_one]
theorem make_p {P : Program} {t e bytes : Nat} {z : Value} (hu : P.underlying t = some (.slice e)) (h : (P.info? e).map (fun i => (i.zero, i.size, i.bytes)) = some (some z, 1, bytes)) (hz : z.cells = #[z]) (hb : bytes ≤ 16) (n : Nat) (hn : n ≤ 1000000) (w : World) :
    (Instr.makeSlice t (.int .i64 n) (.int .i64 n)).run P w = .ok (.slice (some ⟨w.heap.size, 0, none⟩) n n) (w.alloc (.cells (Array.replicate n z) e)) := by
  obtain ⟨i0, hi, hz0, hz1, hz2⟩ := info_parts h
  have q : bytes * n ≤ 16 * 1000000 := Nat.mul_le_mul hb hn
  have := run_make (P := P) w t e i0 z hu hi hz0 .i64 .i64 n n (by omega) (by omega) (by rw [hz2, ← Int.natCast_mul]; omega) (by omega)
  rw [hz, hz1, Nat.mul_one, Int.toNat_natCast, madeCells_one'] at this
  exact this
end Go.Proofs.Ytfhlllmicobafaa

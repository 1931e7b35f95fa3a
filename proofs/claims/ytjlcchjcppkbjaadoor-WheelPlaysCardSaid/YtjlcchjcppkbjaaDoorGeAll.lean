/- GeAll: texts for the statements of this seat: contracts of functions, walks, plain laws. Conditions: none. -/
import Derived.WalkKit
import Derived.Deep.Quiet
import Derived.ProofKit
import Derived.OpenShut
import Derived.Carry
import Derived.ChangeSlices
import Derived.WalkSpells
import Derived.Lib.Hide
import Derived.Deep.MidRow
import Derived.Laws.AppendOwnNone
import Derived.Deep.Upon
import Derived.Maps.OwnSet
import Derived.Maps.RangeWalk
import Derived.Deep.QuietTactic
import Derived.Tactics
import Derived.Laws.BitsLemmas
import Derived.Deep.Slices
import Derived.Deep.Fields
import Derived.ChangeSame
import Derived.Lib.SmallJoins
set_option linter.all false
/- The plain model of package arena, and how an arena lies in memory. -/
namespace Go.Proofs.YtjlcchjcppkbjaaDoor
open Go.RowKit

/-- A slot. -/
structure Sl where
  use : Int
  v : Int
  taken : Bool
  next : Int

/-- An arena. -/
structure Ar where
  sl : List Sl
  freed : Int
  fresh : Int
  taken : Int
  lost : Int

namespace Ar
/-- A new arena. -/
def empty (n : Nat) : Ar := { sl := List.replicate n { use := 0, v := 0, taken := false, next := 0 }, freed := -1, fresh := 0, taken := 0, lost := 0 }
/-- The slot that a handle names. -/
def find (A : Ar) (h : Int) : Option (Nat × Sl) :=
  if h < 4096 then none else
  match A.sl[(h % 4096).toNat]? with
  | some s => if s.taken = true ∧ 4096 * s.use + h % 4096 = h then some ((h % 4096).toNat, s) else none
  | none => none

/-- What Put does with the slot k, once it is chosen. -/
def fill (A : Ar) (k : Nat) (s : Sl) (v : Int) : Ar :=
  { A with sl := A.sl.set k { use := s.use + 1, v := v, taken := true, next := -1 }, taken := A.taken + 1 }

/-- Put: the arena behind it, the handle, the error. -/
def put (A : Ar) (v : Int) : Ar × Int × Int :=
  if 0 ≤ A.freed then
    match A.sl[A.freed.toNat]? with
    | some s => ({ A.fill A.freed.toNat s v with freed := s.next }, 4096 * (s.use + 1) + A.freed, 0)
    | none => (A, 0, 4)
  else
    match A.sl[A.fresh.toNat]? with
    | some s => ({ A.fill A.fresh.toNat s v with fresh := A.fresh + 1 }, 4096 * (s.use + 1) + A.fresh, 0)
    | none => (A, 0, 4)
/-- Get: the number, and whether there is one. -/
def get (A : Ar) (h : Int) : Int × Bool :=
  match A.find h with
  | some (_, s) => (s.v, true)
  | none => (0, false)
/-- Free: the arena behind it, the error. -/
def free (A : Ar) (h : Int) : Ar × Int :=
  match A.find h with
  | some (k, s) =>
    if s.use = 2147483648 then ({ A with sl := A.sl.set k { s with taken := false }, taken := A.taken - 1, lost := A.lost + 1 }, 0)
    else ({ A with sl := A.sl.set k { s with taken := false, next := A.freed }, taken := A.taken - 1, freed := k }, 0)
  | none => (A, 5)
def room (A : Ar) : Int := A.sl.length - A.taken - A.lost
theorem find_spec {A : Ar} {h : Int} {k : Nat} {s : Sl} (hf : A.find h = some (k, s)) : 4096 ≤ h ∧ (k : Int) = h % 4096 ∧ A.sl[k]? = some s ∧ s.taken = true ∧ 4096 * s.use + k = h := by
  unfold find at hf
  split at hf
  · simp at hf
  · rename_i h0
    split at hf
    · rename_i s' hs
      split at hf
      · rename_i hc
        simp only [Option.some.injEq, Prod.mk.injEq] at hf
        obtain ⟨rfl, rfl⟩ := hf
        exact ⟨by omega, by omega, hs, hc.1, by omega⟩
      · simp at hf
    · simp at hf
theorem find_mk {A : Ar} {h : Int} {k : Nat} {s : Sl} (h0 : 4096 ≤ h) (hk : (k : Int) = h % 4096) (hs : A.sl[k]? = some s) (ht : s.taken = true) (hu : 4096 * s.use + k = h) : A.find h = some (k, s) := by
  have e : (h % 4096).toNat = k := by omega
  unfold find
  rw [if_neg (by omega), e, hs]
  simp only [ht, true_and]
  rw [if_pos (by omega)]

/-- Bounds that keep the numbers of an arena from wrapping. -/
structure Ok (A : Ar) : Prop where
  len : A.sl.length ≤ 4096
  fd0 : -1 ≤ A.freed
  fd1 : A.freed < A.sl.length
  fr0 : 0 ≤ A.fresh
  fr1 : A.fresh ≤ A.sl.length
  use : ∀ s ∈ A.sl, 0 ≤ s.use ∧ s.use ≤ 4294967296
  next : ∀ s ∈ A.sl, -1 ≤ s.next ∧ s.next < A.sl.length
  tk : 0 ≤ A.taken ∧ A.taken ≤ 4294967296
  lo : 0 ≤ A.lost ∧ A.lost ≤ 4294967296
end Ar

/-- The cells of a slot. -/
structure SlAt (w : World) (sb k : Nat) (s : Sl) : Prop where
  use : w.cell? ⟨sb, k * 4, none⟩ = some (.int .i64 s.use)
  v : w.cell? ⟨sb, k * 4 + 1, none⟩ = some (.int .i64 s.v)
  taken : w.cell? ⟨sb, k * 4 + 2, none⟩ = some (.bool s.taken)
  next : w.cell? ⟨sb, k * 4 + 3, none⟩ = some (.int .i64 s.next)

/-- An arena in memory: its struct in block ab, its slots in block sb. -/
structure IsAr (w : World) (ab sb cap : Nat) (A : Ar) : Prop where
  made : w.cell? ⟨ab, 0, none⟩ = some (.bool true)
  slots : w.cell? ⟨ab, 1, none⟩ = some (.slice (some ⟨sb, 0, none⟩) A.sl.length cap)
  freed : w.cell? ⟨ab, 2, none⟩ = some (.int .i64 A.freed)
  fresh : w.cell? ⟨ab, 3, none⟩ = some (.int .i64 A.fresh)
  taken : w.cell? ⟨ab, 4, none⟩ = some (.int .i64 A.taken)
  lost : w.cell? ⟨ab, 5, none⟩ = some (.int .i64 A.lost)
  slot : ∀ k s, A.sl[k]? = some s → SlAt w sb k s
  fza : ∀ o, w.frozen? ⟨ab, o, none⟩ = false
  fzs : ∀ o, w.frozen? ⟨sb, o, none⟩ = false
  ne : ab ≠ sb
  lta : ab < w.heap.size
  lts : sb < w.heap.size

/-! ### Worlds -/

theorem cell_set (w : World) (a b : Addr) (v : Value) (h : (w.cell? a).isSome = true) : (w.setCell a v).cell? b = if b = a then some v else w.cell? b := by
  by_cases e : b = a
  · subst e
    obtain ⟨u, hu⟩ := Option.isSome_iff_exists.1 h
    rw [if_pos rfl]; exact World.cell?_setCell_same w b v hu
  · rw [if_neg e, World.cell?_setCell_other (h := fun q => e q.symm)]

theorem cell_set_blk (w : World) (a b : Addr) (v : Value) (h : b.block ≠ a.block) : (w.setCell a v).cell? b = w.cell? b :=
  World.cell?_setCell_other w a b v (fun q => h (by rw [q]))

/-- All blocks of w but those of S are in w' as they were. -/
structure Kept (S : Nat → Prop) (w w' : World) : Prop where
  os : w'.os = w.os
  tape : w'.tape = w.tape
  output : w'.output = w.output
  size : w.heap.size ≤ w'.heap.size
  block : ∀ k, k < w.heap.size → ¬ S k → w'.heap[k]? = w.heap[k]?

namespace Kept
variable {S T : Nat → Prop} {w w' w'' : World}
theorem refl (S : Nat → Prop) (w : World) : Kept S w w := ⟨rfl, rfl, rfl, Nat.le_refl _, fun _ _ _ => rfl⟩
theorem trans (h : Kept S w w') (k : Kept T w' w'') (hT : ∀ i, i < w.heap.size → T i → S i) : Kept S w w'' :=
  ⟨k.os.trans h.os, k.tape.trans h.tape, k.output.trans h.output, Nat.le_trans h.size k.size,
   fun i hi hn => (k.block i (Nat.lt_of_lt_of_le hi h.size) (fun t => hn (hT i hi t))).trans (h.block i hi hn)⟩
theorem mono (h : Kept S w w') (hS : ∀ i, i < w.heap.size → S i → T i) : Kept T w w' :=
  ⟨h.os, h.tape, h.output, h.size, fun i hi hn => h.block i hi (fun s => hn (hS i hi s))⟩
theorem drew (h : Kept S w w') : Kept S w w'.drew := ⟨h.os, h.tape, h.output, h.size, h.block⟩
theorem drewN (h : Kept S w w') (n : Nat) : Kept S w (w'.drewN n) := ⟨h.os, h.tape, h.output, h.size, h.block⟩
theorem alloc (h : Kept S w w') (o : Obj) : Kept S w (w'.alloc o) :=
  ⟨h.os, h.tape, h.output, by have := h.size; simp; omega, fun i hi hn => by
    rw [Below.heap_alloc _ _ _ (Nat.lt_of_lt_of_le hi h.size)]; exact h.block i hi hn⟩
theorem setCell (h : Kept S w w') (a : Addr) (v : Value) (ha : a.block < w.heap.size → S a.block) : Kept S w (w'.setCell a v) :=
  ⟨h.os, h.tape, h.output, by have := h.size; simp; omega, fun i hi hn => by
    rw [Below.heap_setCell _ _ _ _ (fun e => hn (by subst e; exact ha hi))]; exact h.block i hi hn⟩
theorem cell (h : Kept S w w') {a : Addr} (hi : a.block < w.heap.size) (hn : ¬ S a.block) : w'.cell? a = w.cell? a :=
  World.cell?_of_block (h.block _ hi hn)
theorem frozen (h : Kept S w w') {a : Addr} (hi : a.block < w.heap.size) (hn : ¬ S a.block) : w'.frozen? a = w.frozen? a :=
  World.frozen?_of_block (h.block _ hi hn)
theorem below (h : Kept S w w') {B : Nat} (hB : B ≤ w.heap.size) (hS : ∀ i, i < B → ¬ S i) : Below B w w' :=
  ⟨h.os, h.tape, h.output, h.size, fun i hi => h.block i (Nat.lt_of_lt_of_le hi hB) (hS i hi)⟩
end Kept

/-- An arena in blocks that nobody has touched. -/
theorem IsAr.kept {S : Nat → Prop} {w w' : World} {ab sb cap : Nat} {A : Ar} (I : IsAr w ab sb cap A) (h : Kept S w w') (ha : ¬ S ab) (hs : ¬ S sb) : IsAr w' ab sb cap A where
  made := (h.cell (a := ⟨ab, 0, none⟩) I.lta ha).trans I.made
  slots := (h.cell (a := ⟨ab, 1, none⟩) I.lta ha).trans I.slots
  freed := (h.cell (a := ⟨ab, 2, none⟩) I.lta ha).trans I.freed
  fresh := (h.cell (a := ⟨ab, 3, none⟩) I.lta ha).trans I.fresh
  taken := (h.cell (a := ⟨ab, 4, none⟩) I.lta ha).trans I.taken
  lost := (h.cell (a := ⟨ab, 5, none⟩) I.lta ha).trans I.lost
  slot := fun k s hk =>
    have c := I.slot k s hk
    ⟨(h.cell (a := ⟨sb, k * 4, none⟩) I.lts hs).trans c.use, (h.cell (a := ⟨sb, k * 4 + 1, none⟩) I.lts hs).trans c.v,
     (h.cell (a := ⟨sb, k * 4 + 2, none⟩) I.lts hs).trans c.taken, (h.cell (a := ⟨sb, k * 4 + 3, none⟩) I.lts hs).trans c.next⟩
  fza := fun o => (h.frozen (a := ⟨ab, o, none⟩) I.lta ha).trans (I.fza o)
  fzs := fun o => (h.frozen (a := ⟨sb, o, none⟩) I.lts hs).trans (I.fzs o)
  ne := I.ne
  lta := Nat.lt_of_lt_of_le I.lta h.size
  lts := Nat.lt_of_lt_of_le I.lts h.size

/-! ### One store at a time -/

theorem IsAr.drew {w : World} {ab sb cap : Nat} {A : Ar} (I : IsAr w ab sb cap A) : IsAr w.drew ab sb cap A :=
  ⟨I.made, I.slots, I.freed, I.fresh, I.taken, I.lost, fun k s h => ⟨(I.slot k s h).use, (I.slot k s h).v, (I.slot k s h).taken, (I.slot k s h).next⟩, I.fza, I.fzs, I.ne, I.lta, I.lts⟩

theorem IsAr.drewN {w : World} {ab sb cap : Nat} {A : Ar} (I : IsAr w ab sb cap A) (n : Nat) : IsAr (w.drewN n) ab sb cap A :=
  ⟨I.made, I.slots, I.freed, I.fresh, I.taken, I.lost, fun k s h => ⟨(I.slot k s h).use, (I.slot k s h).v, (I.slot k s h).taken, (I.slot k s h).next⟩, I.fza, I.fzs, I.ne, I.lta, I.lts⟩

theorem SlAt.other {w : World} {sb k : Nat} {s : Sl} (S : SlAt w sb k s) (a : Addr) (v : Value) (h : sb ≠ a.block) : SlAt (w.setCell a v) sb k s :=
  ⟨(cell_set_blk w a ⟨sb, _, none⟩ v h).trans S.use, (cell_set_blk w a ⟨sb, _, none⟩ v h).trans S.v, (cell_set_blk w a ⟨sb, _, none⟩ v h).trans S.taken, (cell_set_blk w a ⟨sb, _, none⟩ v h).trans S.next⟩

/-- A cell in the same block, at another offset. -/
theorem cell_set_off (w : World) (b o o' : Nat) (v : Value) (h : o' ≠ o) : (w.setCell ⟨b, o, none⟩ v).cell? ⟨b, o', none⟩ = w.cell? ⟨b, o', none⟩ :=
  World.cell?_setCell_other w ⟨b, o, none⟩ ⟨b, o', none⟩ v (fun q => h (by injection q with _ q2; exact q2.symm))
theorem cell_set_at {w : World} {a : Addr} {u : Value} (v : Value) (h : w.cell? a = some u) : (w.setCell a v).cell? a = some v := World.cell?_setCell_same w a v h

theorem IsAr.setFreed {w : World} {ab sb cap : Nat} {A : Ar} (I : IsAr w ab sb cap A) (x : Int) : IsAr (w.setCell ⟨ab, 2, none⟩ (.int .i64 x)) ab sb cap { A with freed := x } where
  made := (cell_set_off w ab 2 0 _ (by decide)).trans I.made
  slots := (cell_set_off w ab 2 1 _ (by decide)).trans I.slots
  freed := cell_set_at _ I.freed
  fresh := (cell_set_off w ab 2 3 _ (by decide)).trans I.fresh
  taken := (cell_set_off w ab 2 4 _ (by decide)).trans I.taken
  lost := (cell_set_off w ab 2 5 _ (by decide)).trans I.lost
  slot := fun k s h => (I.slot k s h).other _ _ I.ne.symm
  fza := fun o => (World.frozen?_setCell ..).trans (I.fza o)
  fzs := fun o => (World.frozen?_setCell ..).trans (I.fzs o)
  ne := I.ne
  lta := by simpa using I.lta
  lts := by simpa using I.lts

theorem IsAr.setFresh {w : World} {ab sb cap : Nat} {A : Ar} (I : IsAr w ab sb cap A) (x : Int) : IsAr (w.setCell ⟨ab, 3, none⟩ (.int .i64 x)) ab sb cap { A with fresh := x } where
  made := (cell_set_off w ab 3 0 _ (by decide)).trans I.made
  slots := (cell_set_off w ab 3 1 _ (by decide)).trans I.slots
  freed := (cell_set_off w ab 3 2 _ (by decide)).trans I.freed
  fresh := cell_set_at _ I.fresh
  taken := (cell_set_off w ab 3 4 _ (by decide)).trans I.taken
  lost := (cell_set_off w ab 3 5 _ (by decide)).trans I.lost
  slot := fun k s h => (I.slot k s h).other _ _ I.ne.symm
  fza := fun o => (World.frozen?_setCell ..).trans (I.fza o)
  fzs := fun o => (World.frozen?_setCell ..).trans (I.fzs o)
  ne := I.ne
  lta := by simpa using I.lta
  lts := by simpa using I.lts

theorem IsAr.setTaken {w : World} {ab sb cap : Nat} {A : Ar} (I : IsAr w ab sb cap A) (x : Int) : IsAr (w.setCell ⟨ab, 4, none⟩ (.int .i64 x)) ab sb cap { A with taken := x } where
  made := (cell_set_off w ab 4 0 _ (by decide)).trans I.made
  slots := (cell_set_off w ab 4 1 _ (by decide)).trans I.slots
  freed := (cell_set_off w ab 4 2 _ (by decide)).trans I.freed
  fresh := (cell_set_off w ab 4 3 _ (by decide)).trans I.fresh
  taken := cell_set_at _ I.taken
  lost := (cell_set_off w ab 4 5 _ (by decide)).trans I.lost
  slot := fun k s h => (I.slot k s h).other _ _ I.ne.symm
  fza := fun o => (World.frozen?_setCell ..).trans (I.fza o)
  fzs := fun o => (World.frozen?_setCell ..).trans (I.fzs o)
  ne := I.ne
  lta := by simpa using I.lta
  lts := by simpa using I.lts

theorem IsAr.setLost {w : World} {ab sb cap : Nat} {A : Ar} (I : IsAr w ab sb cap A) (x : Int) : IsAr (w.setCell ⟨ab, 5, none⟩ (.int .i64 x)) ab sb cap { A with lost := x } where
  made := (cell_set_off w ab 5 0 _ (by decide)).trans I.made
  slots := (cell_set_off w ab 5 1 _ (by decide)).trans I.slots
  freed := (cell_set_off w ab 5 2 _ (by decide)).trans I.freed
  fresh := (cell_set_off w ab 5 3 _ (by decide)).trans I.fresh
  taken := (cell_set_off w ab 5 4 _ (by decide)).trans I.taken
  lost := cell_set_at _ I.lost
  slot := fun k s h => (I.slot k s h).other _ _ I.ne.symm
  fza := fun o => (World.frozen?_setCell ..).trans (I.fza o)
  fzs := fun o => (World.frozen?_setCell ..).trans (I.fzs o)
  ne := I.ne
  lta := by simpa using I.lta
  lts := by simpa using I.lts

/-- One cell of a slot. -/
theorem IsAr.setSlot {w : World} {ab sb cap : Nat} {A : Ar} (I : IsAr w ab sb cap A) {k : Nat} {s : Sl} (hs : A.sl[k]? = some s) (t : Sl) (j : Nat) (v : Value)
    (hj : j < 4) (h0 : j = 0 ∧ t = { s with use := t.use } ∧ v = .int .i64 t.use ∨ j = 1 ∧ t = { s with v := t.v } ∧ v = .int .i64 t.v ∨
      j = 2 ∧ t = { s with taken := t.taken } ∧ v = .bool t.taken ∨ j = 3 ∧ t = { s with next := t.next } ∧ v = .int .i64 t.next) :
    IsAr (w.setCell ⟨sb, k * 4 + j, none⟩ v) ab sb cap { A with sl := A.sl.set k t } where
  made := (cell_set_blk w _ ⟨ab, 0, none⟩ _ I.ne).trans I.made
  slots := by rw [List.length_set]; exact (cell_set_blk w _ ⟨ab, 1, none⟩ _ I.ne).trans I.slots
  freed := (cell_set_blk w _ ⟨ab, 2, none⟩ _ I.ne).trans I.freed
  fresh := (cell_set_blk w _ ⟨ab, 3, none⟩ _ I.ne).trans I.fresh
  taken := (cell_set_blk w _ ⟨ab, 4, none⟩ _ I.ne).trans I.taken
  lost := (cell_set_blk w _ ⟨ab, 5, none⟩ _ I.ne).trans I.lost
  slot := by
    intro k' s' h
    have S := I.slot k s hs
    by_cases e : k' = k
    · subst e
      have hl : k' < A.sl.length := (List.getElem?_eq_some_iff.1 hs).1
      simp only [List.getElem?_set_self hl] at h
      obtain rfl := Option.some.inj h
      rcases h0 with ⟨rfl, ht, rfl⟩ | ⟨rfl, ht, rfl⟩ | ⟨rfl, ht, rfl⟩ | ⟨rfl, ht, rfl⟩
      · have q1 : t.v = s.v := by rw [ht]
        have q2 : t.taken = s.taken := by rw [ht]
        have q3 : t.next = s.next := by rw [ht]
        exact ⟨cell_set_at _ S.use, by rw [q1]; exact (cell_set_off w sb _ _ _ (by omega)).trans S.v, by rw [q2]; exact (cell_set_off w sb _ _ _ (by omega)).trans S.taken, by rw [q3]; exact (cell_set_off w sb _ _ _ (by omega)).trans S.next⟩
      · have q1 : t.use = s.use := by rw [ht]
        have q2 : t.taken = s.taken := by rw [ht]
        have q3 : t.next = s.next := by rw [ht]
        exact ⟨by rw [q1]; exact (cell_set_off w sb _ _ _ (by omega)).trans S.use, cell_set_at _ S.v, by rw [q2]; exact (cell_set_off w sb _ _ _ (by omega)).trans S.taken, by rw [q3]; exact (cell_set_off w sb _ _ _ (by omega)).trans S.next⟩
      · have q1 : t.use = s.use := by rw [ht]
        have q2 : t.v = s.v := by rw [ht]
        have q3 : t.next = s.next := by rw [ht]
        exact ⟨by rw [q1]; exact (cell_set_off w sb _ _ _ (by omega)).trans S.use, by rw [q2]; exact (cell_set_off w sb _ _ _ (by omega)).trans S.v, cell_set_at _ S.taken, by rw [q3]; exact (cell_set_off w sb _ _ _ (by omega)).trans S.next⟩
      · have q1 : t.use = s.use := by rw [ht]
        have q2 : t.v = s.v := by rw [ht]
        have q3 : t.taken = s.taken := by rw [ht]
        exact ⟨by rw [q1]; exact (cell_set_off w sb _ _ _ (by omega)).trans S.use, by rw [q2]; exact (cell_set_off w sb _ _ _ (by omega)).trans S.v, by rw [q3]; exact (cell_set_off w sb _ _ _ (by omega)).trans S.taken, cell_set_at _ S.next⟩
    · simp only [List.getElem?_set_ne (Ne.symm e)] at h
      have S' := I.slot k' s' h
      exact ⟨(cell_set_off w sb _ _ _ (by omega)).trans S'.use, (cell_set_off w sb _ _ _ (by omega)).trans S'.v, (cell_set_off w sb _ _ _ (by omega)).trans S'.taken, (cell_set_off w sb _ _ _ (by omega)).trans S'.next⟩
  fza := fun o => (World.frozen?_setCell ..).trans (I.fza o)
  fzs := fun o => (World.frozen?_setCell ..).trans (I.fzs o)
  ne := I.ne
  lta := by simpa using I.lta
  lts := by simpa using I.lts

theorem IsAr.setUse {w : World} {ab sb cap : Nat} {A : Ar} (I : IsAr w ab sb cap A) {k : Nat} {s : Sl} (hs : A.sl[k]? = some s) (x : Int) :
    IsAr (w.setCell ⟨sb, k * 4, none⟩ (.int .i64 x)) ab sb cap { A with sl := A.sl.set k { s with use := x } } :=
  I.setSlot hs { s with use := x } 0 _ (by decide) (.inl ⟨rfl, rfl, rfl⟩)
theorem IsAr.setV {w : World} {ab sb cap : Nat} {A : Ar} (I : IsAr w ab sb cap A) {k : Nat} {s : Sl} (hs : A.sl[k]? = some s) (x : Int) :
    IsAr (w.setCell ⟨sb, k * 4 + 1, none⟩ (.int .i64 x)) ab sb cap { A with sl := A.sl.set k { s with v := x } } :=
  I.setSlot hs { s with v := x } 1 _ (by decide) (.inr (.inl ⟨rfl, rfl, rfl⟩))
theorem IsAr.setTk {w : World} {ab sb cap : Nat} {A : Ar} (I : IsAr w ab sb cap A) {k : Nat} {s : Sl} (hs : A.sl[k]? = some s) (x : Bool) :
    IsAr (w.setCell ⟨sb, k * 4 + 2, none⟩ (.bool x)) ab sb cap { A with sl := A.sl.set k { s with taken := x } } :=
  I.setSlot hs { s with taken := x } 2 _ (by decide) (.inr (.inr (.inl ⟨rfl, rfl, rfl⟩)))
theorem IsAr.setNext {w : World} {ab sb cap : Nat} {A : Ar} (I : IsAr w ab sb cap A) {k : Nat} {s : Sl} (hs : A.sl[k]? = some s) (x : Int) :
    IsAr (w.setCell ⟨sb, k * 4 + 3, none⟩ (.int .i64 x)) ab sb cap { A with sl := A.sl.set k { s with next := x } } :=
  I.setSlot hs { s with next := x } 3 _ (by decide) (.inr (.inr (.inr ⟨rfl, rfl, rfl⟩)))

theorem set_at {l : List Sl} {k : Nat} {s : Sl} (h : l[k]? = some s) (t : Sl) : (l.set k t)[k]? = some t := by
  rw [List.getElem?_set_self (List.getElem?_eq_some_iff.1 h).1]

/-- A slot is filled: its four cells are stored. -/
theorem IsAr.filled {w : World} {ab sb cap : Nat} {A : Ar} (I : IsAr w ab sb cap A) {k : Nat} {s : Sl} (hs : A.sl[k]? = some s) (u v n : Int) (b : Bool) :
    IsAr ((((w.setCell ⟨sb, k * 4, none⟩ (.int .i64 u)).setCell ⟨sb, k * 4 + 1, none⟩ (.int .i64 v)).setCell ⟨sb, k * 4 + 2, none⟩ (.bool b)).setCell ⟨sb, k * 4 + 3, none⟩ (.int .i64 n)) ab sb cap
      { A with sl := A.sl.set k { use := u, v := v, taken := b, next := n } } := by
  have J := (((I.setUse hs u).setV (set_at hs _) v).setTk (set_at (set_at hs _) _) b).setNext (set_at (set_at (set_at hs _) _) _) n
  simpa using J
theorem Kept.filled {S : Nat → Prop} {w w' : World} (h : Kept S w w') (sb o1 o2 o3 o4 : Nat) (v1 v2 v3 v4 : Value) (hS : S sb) :
    Kept S w ((((w'.setCell ⟨sb, o1, none⟩ v1).setCell ⟨sb, o2, none⟩ v2).setCell ⟨sb, o3, none⟩ v3).setCell ⟨sb, o4, none⟩ v4) :=
  (((h.setCell ⟨sb, o1, none⟩ v1 (fun _ => hS)).setCell ⟨sb, o2, none⟩ v2 (fun _ => hS)).setCell ⟨sb, o3, none⟩ v3 (fun _ => hS)).setCell ⟨sb, o4, none⟩ v4 (fun _ => hS)
end Go.Proofs.YtjlcchjcppkbjaaDoor
/- A row's end where nothing that was there has turned. -/
namespace Go.Proofs.YtjlcchjcppkbjaaDoor
open Go.RowKit Go.ChangeShapes Go.WideShapes Go.ChangeAt

theorem Kept.frame {W w' : World} (h : Kept (fun _ => False) W w') (may : MemPlace → Prop) : W.keptBut w' may :=
  (h.below (Nat.le_refl _) (fun _ _ f => f)).frame may

theorem post_of_kept {H : Type} {enc : TypeId × Value → H} {P : Program} {f : Func} {s : ChangeSpec} {apart fresh handsOn : Bool} {W W' : World} {args : Array Value} {v : Value} {ds gs : List (DataW H)} {before pa pv : List MemPlace}
    (hW : DataW.Whole enc P f.params.toList s.vars apart W args.toList ds gs before)
    (hres : ∀ (b : Nat) (sp : Nat → Bool) (hd : Bool), DataW.TrodAll enc P W' b sp hd f.resultTypes.toList (v.resultList f.resultTypes.size) (s.fn H (ds ++ gs)).results [])
    (hargs : ∀ sp : Nat → Bool, (∀ p ∈ before, sp p.block = true) → DataW.TrodAll enc P W' 0 sp true f.params.toList args.toList (s.fn H (ds ++ gs)).args pa)
    (hvars : ∀ sp : Nat → Bool, (∀ p ∈ before, sp p.block = true) → DataW.TrodVars enc P W' sp s.vars (s.fn H (ds ++ gs)).vars pv)
    (hk : Kept (fun _ => False) W W') : s.post enc P f apart fresh handsOn false W args v W' := by
  have hold : ∀ p ∈ before, (fun b => decide (b < W.heap.size)) p.block = true := fun p hp => by simpa using hW.lt p hp
  exact ⟨ds, gs, before, [], pa, pv, hW, hres _ _ _, hargs _ hold, hvars _ hold, hk.frame _, fun h => by cases h⟩
end Go.Proofs.YtjlcchjcppkbjaaDoor
/- A row's end where nothing that was there has turned: every argument, of whatever type, reads as before. -/
namespace Go.Proofs.YtjlcchjcppkbjaaDoor
open Go.RowKit Go.ChangeShapes Go.WideShapes Go.ChangeAt
variable {H : Type} {enc : TypeId × Value → H} {P : Program}

theorem trodAll_keep (hl : laidOutB P = true) {W W' : World} (hb : Below W.heap.size W W') :
    ∀ {ts : List TypeId} {vs : List Value} {ds : List (DataW H)} {ps : List MemPlace}, (ts.all fun t => P.readableRec t && decide (t < P.types.size)) = true → DataW.TrodAll enc P W 0 (fun _ => true) true ts vs ds ps → (∀ x ∈ ps, x.block < W.heap.size) →
      DataW.TrodAll enc P W' 0 (fun b => decide (b < W.heap.size)) true ts vs ds ps
  | [], vs, ds, ps, _, h, _ => by
    obtain ⟨rfl, rfl, rfl⟩ := trodAll_nil h
    exact trodAll_mk0
  | t :: ts, vs, ds, ps, ht, h, hp => by
    obtain ⟨v, vs', d, ds', p, q, rfl, rfl, rfl, h1, h2⟩ := trodAll_cons h
    simp only [List.all_cons, Bool.and_eq_true] at ht
    exact trodAll_cons_mk (Below.trod hl ht.1.1 (of_decide_eq_true ht.1.2) h1 hb (fun x hx => hp x (List.mem_append_left _ hx)))
      (trodAll_keep hl hb (by simpa using ht.2) h2 (fun x hx => hp x (List.mem_append_right _ hx)))

theorem post_of_kept2 {f : Func} {s : ChangeSpec} {apart fresh handsOn : Bool} {W W' : World} {args : Array Value} {v : Value} {ds : List (DataW H)} {before : List MemPlace} (hl : laidOutB P = true)
    (hW : DataW.Whole enc P f.params.toList s.vars apart W args.toList ds [] before) (hvars : s.vars = [])
    (hts : (f.params.toList.all fun t => P.readableRec t && decide (t < P.types.size)) = true)
    (hA : DataW.TrodAll enc P W 0 (fun _ => true) true f.params.toList args.toList ds before)
    (hres : ∀ (b : Nat) (sp : Nat → Bool) (hd : Bool), DataW.TrodAll enc P W' b sp hd f.resultTypes.toList (v.resultList f.resultTypes.size) (s.fn H (ds ++ [])).results [])
    (hargs : (s.fn H (ds ++ [])).args = ds) (hvs : (s.fn H (ds ++ [])).vars = [])
    (hk : Kept (fun _ => False) W W') : s.post enc P f apart fresh handsOn false W args v W' := by
  have hB : Below W.heap.size W W' := hk.below (Nat.le_refl _) (fun _ _ h => h)
  refine ⟨ds, [], before, [], before, [], hW, hres _ _ _, ?_, ?_, hk.frame _, fun h => by cases h⟩
  · rw [hargs]; exact trodAll_keep hl hB hts hA (fun x hx => hW.lt x hx)
  · rw [hvars, hvs]; rfl

/-- A slice of numbers, as the walk wants it. -/
theorem slice_ints {t e : TypeId} {k : IntKind} {W : World} {base : Nat} {v : Value} {d : DataW H} {ps : List MemPlace} (ht : P.underlying t = some (.slice e)) (he : P.underlying e = some (.int k)) (hc : P.cellsOf e = 1)
    (hv : Value.okWide P W .any base t v) (h : DataW.Trod enc P W 0 (fun _ => true) true t v d ps) :
    ∃ (p : Option Addr) (cap : Nat) (xs : List Int), v = .slice p xs.length cap ∧ xs.length ≤ maxLen ∧
      ∀ i x, xs[i]? = some x → (Lit.int k x).wf = true ∧ ∃ b off, p = some ⟨b, off, none⟩ ∧ b < W.heap.size ∧ W.cell? ⟨b, off + i, none⟩ = some (.int k x) := by
  obtain ⟨a0, len, cap, rfl⟩ := okWide_slice ht hv
  obtain ⟨fuel, hf⟩ := h
  rcases open_ints ht he hc hf with ⟨hcs, hx⟩ | ⟨a, len', cap', zs, hcs, _, hl, hm, hz, hx, hcell, hwz⟩
  · simp [Value.cells] at hcs
    obtain ⟨rfl, rfl, rfl⟩ := hcs
    exact ⟨none, 0, [], rfl, Nat.zero_le _, fun i x hx => by cases hx⟩
  · simp [Value.cells] at hcs
    obtain ⟨rfl, rfl, rfl⟩ := hcs
    simp only [if_true] at hz
    have hll : (zs.take len).length = len := by simp; omega
    refine ⟨some a, cap, zs.take len, by rw [hll], by omega, fun i x hx => ?_⟩
    have hi : i < len := by have := (List.getElem?_eq_some_iff.1 hx).1; omega
    rw [List.getElem?_take_of_lt hi] at hx
    have hzi : zs.getD i 0 = x := by rw [List.getD_eq_getElem?_getD, hx]; rfl
    have hmem : x ∈ zs := List.mem_of_getElem? hx
    obtain ⟨b, off, spot⟩ := a
    have hci := hcell i (by omega)
    have hspot : spot = none := by simpa [Addr.add] using World.cell?_spot (hcell 0 (by omega))
    subst hspot
    rw [hzi] at hci
    have hci2 : W.cell? ⟨b, off + i, none⟩ = some (.int k x) := by simpa [add_plain] using hci
    exact ⟨hwz x hmem, b, off, rfl, World.block_lt_of_cell? _ _ hci2, hci2⟩
end Go.Proofs.YtjlcchjcppkbjaaDoor
/- Small laws for walks: a slice that the call owns, one element appended. -/
namespace Go.Proofs.YtjlcchjcppkbjaaDoor
open Go.RowKit

/-- What the walk needs of a slice's type: t is a slice of e, an element has size cells and so many bytes. -/
structure ElemOk (P : Program) (t e size bytes : Nat) : Prop where
  under : P.underlying t = some (.slice e)
  info : ∃ (i : TypeInfo) (z : Value), P.info? e = some i ∧ i.zero = some z ∧ i.size = size ∧ i.bytes = bytes ∧ z.cells.size = size
  pos : 0 < size

theorem ElemOk.mk' {P : Program} {t e size bytes : Nat} {z : Value} (hu : P.underlying t = some (.slice e)) (h : (P.info? e).map (fun i => (i.zero, i.size, i.bytes)) = some (some z, size, bytes))
    (hz : z.cells.size = size) (hp : 0 < size) : ElemOk P t e size bytes := by
  obtain ⟨i, hi, h1, h2, h3⟩ := info_parts h
  exact ⟨hu, ⟨i, z, hi, h1, h2, h3, hz⟩, hp⟩

theorem Kept.of_grown {w w' : World} {row : Option Nat} (h : w.grownBy w' row) : Kept (fun b => row = some b) w w' :=
  ⟨h.os, h.tape, h.output, h.size, fun k hk hn => h.block k hk (fun e => hn e.symm)⟩

/-- One element, just built, is appended to a slice that the call owns. -/
theorem wpList_app1 {P : Program} {t e size bytes : Nat} (E : ElemOk P t e size bytes) {ops : Array Oper} {rest : List Oper} {o : Oper} {a : Act} {Q : Exit → Act → World → Prop} (hgd : o.guard = none) (s x : Operand)
    (ho : o.op = .call { callee := .builtin .append, args := #[s, x], argTypes := #[t, t] }) {W : World} {news : List Value} (base : Nat) (v : Value) (n : Nat) (xs : List Value) (hs : a.eval s = v)
    (hown : W.ownsRow base e size v n xs) (hx : a.eval x = .slice (some ⟨W.heap.size, 0, none⟩) 1 1) (hl : news.length = size) (h1 : ∀ u ∈ news, u.oneCell' = true)
    (h63 : n + 1 ≤ maxLen) (hbytes : (n + 1) * bytes ≤ 140737488355328) (hbase : base ≤ W.heap.size)
    (h : ∀ g cap w', w'.ownsRow base e size (.slice (some ⟨g, 0, none⟩) (n + 1) cap) (n + 1) (xs ++ news) → Kept (fun b => v.ownBlock = some b) W w' → wpList P ops Q rest (a.put o.dst (.slice (some ⟨g, 0, none⟩) (n + 1) cap)) w') :
    wpList P ops Q (o :: rest) a (W.alloc (.cells news.toArray e)) := by
  obtain ⟨i, z, hi, hz, hsz, hby, hzs⟩ := E.info
  refine wpList_append_own _ hgd s x t ho base e i z size bytes E.under hi hz hsz hby hzs E.pos v n xs hs (hown.alloc _) ⟨W.heap.size, 0, none⟩ 1 1 news hx (by omega) ?_ h1 h63 hbytes (by simp; omega) ?_
  · intro j u hj
    have : (⟨W.heap.size, 0, none⟩ : Addr).add j = ⟨W.heap.size, j, none⟩ := by unfold Addr.add; split <;> simp_all
    rw [this, World.cell?_alloc_at _ _ _ _ rfl]
    simpa using hj
  · intro v' w' hown' hg hnil
    have hex : ∃ g cap, v' = .slice (some ⟨g, 0, none⟩) (n + 1) cap := by
      rcases hown'.2 with ⟨-, h0⟩ | ⟨g, cap, cur, hv, -⟩
      · omega
      · exact ⟨g, cap, hv⟩
    obtain ⟨g, cap, rfl⟩ := hex
    refine h g cap w' hown' ?_
    exact ((Kept.refl (fun b => v.ownBlock = some b) W).alloc _).trans (Kept.of_grown hg) (fun i _ hi => hi)

theorem ownsRow_block {w : World} {base e size : Nat} {v : Value} {n : Nat} {xs : List Value} (h : w.ownsRow base e size v n xs) {b : Nat} (hb : v.ownBlock = some b) : base ≤ b ∧ b < w.heap.size := by
  rcases h.2 with ⟨rfl, -⟩ | ⟨g, cap, cur, rfl, hg, hh, -⟩
  · simp [Value.ownBlock] at hb
  · simp [Value.ownBlock] at hb
    subst hb
    exact ⟨hg, (Array.getElem?_eq_some_iff.1 hh).1⟩

/-- An owned row in a world in which its block is as it was. -/
theorem ownsRow_kept {S : Nat → Prop} {w w' : World} {base e size : Nat} {v : Value} {n : Nat} {xs : List Value} (h : w.ownsRow base e size v n xs) (K : Kept S w w') (hS : ∀ b, base ≤ b → v.ownBlock = some b → ¬ S b) :
    w'.ownsRow base e size v n xs := by
  obtain ⟨h1, h2⟩ := h
  refine ⟨h1, ?_⟩
  rcases h2 with h2 | ⟨g, cap, cur, rfl, hg, hh, r⟩
  · exact .inl h2
  · exact .inr ⟨g, cap, cur, rfl, hg, (K.block g (Array.getElem?_eq_some_iff.1 hh).1 (hS g hg rfl)).trans hh, r⟩

/-- An owned row that is not empty is no nil slice. -/
theorem ownsRow_pos {w : World} {base e size : Nat} {v : Value} {n : Nat} {xs : List Value} (h : w.ownsRow base e size v n xs) (hn : 0 < n) : ∃ g cap, v = .slice (some ⟨g, 0, none⟩) n cap ∧ base ≤ g := by
  rcases h.2 with ⟨-, h0⟩ | ⟨g, cap, cur, hv, hg, -⟩
  · omega
  · exact ⟨g, cap, hv, hg⟩
theorem ownsRow_base {w : World} {base base' e size : Nat} {v : Value} {n : Nat} {xs : List Value} (h : w.ownsRow base e size v n xs) (hb : base' ≤ base) : w.ownsRow base' e size v n xs := by
  obtain ⟨h1, h2⟩ := h
  refine ⟨h1, ?_⟩
  rcases h2 with h2 | ⟨g, cap, cur, hv, hg, r⟩
  · exact .inl h2
  · exact .inr ⟨g, cap, cur, hv, by omega, r⟩
theorem ownsRow_set {w : World} {base e size : Nat} {v : Value} {n : Nat} {xs : List Value} (h : w.ownsRow base e size v n xs) (a : Addr) (u : Value) (ha : a.block < base) : (w.setCell a u).ownsRow base e size v n xs :=
  ownsRow_setCell_below h ha u
end Go.Proofs.YtjlcchjcppkbjaaDoor
/- A slice that reads as numbers of one kind. -/

namespace Go.Proofs.YtjlcchjcppkbjaaDoor
open Go.RowKit

/-- The slice v reads as the numbers xs (of the kind k). -/
def IntsK (k : IntKind) (w : World) (v : Value) (xs : List Int) : Prop :=
  (∃ a cap, v = .slice a 0 cap ∧ xs = []) ∨ ∃ b off cap, v = .slice (some ⟨b, off, none⟩) xs.length cap ∧ b < w.heap.size ∧ ∀ j x, xs[j]? = some x → w.cell? ⟨b, off + j, none⟩ = some (.int k x)
abbrev Ints := IntsK .i64
variable {k : IntKind}
theorem IntsK.len {w : World} {v : Value} {xs : List Int} (h : IntsK k w v xs) : ∃ a cap, v = .slice a xs.length cap := by
  rcases h with ⟨a, cap, rfl, rfl⟩ | ⟨b, off, cap, rfl, -⟩
  · exact ⟨a, cap, rfl⟩
  · exact ⟨_, cap, rfl⟩
theorem IntsK.pos {w : World} {v : Value} {xs : List Int} (h : IntsK k w v xs) (hp : 0 < xs.length) : ∃ b off cap, v = .slice (some ⟨b, off, none⟩) xs.length cap ∧ b < w.heap.size ∧ ∀ j x, xs[j]? = some x → w.cell? ⟨b, off + j, none⟩ = some (.int k x) := by
  rcases h with ⟨a, cap, rfl, rfl⟩ | h
  · simp at hp
  · exact h
theorem IntsK.of_own {w : World} {base e : Nat} {v : Value} {xs : List Int} (h : w.ownsRow base e 1 v xs.length (xs.map (Value.int k))) : IntsK k w v xs := by
  rcases h.2 with ⟨rfl, h0⟩ | ⟨g, cap, cur, rfl, hg, hh, -⟩
  · exact .inl ⟨none, 0, rfl, List.eq_nil_of_length_eq_zero h0⟩
  · refine .inr ⟨g, 0, cap, rfl, (Array.getElem?_eq_some_iff.1 hh).1, fun j x hx => ?_⟩
    rw [Nat.zero_add, h.cellAt j (by have := (List.getElem?_eq_some_iff.1 hx).1; omega), List.getElem?_map, hx]; rfl
theorem IntsK.kept {S : Nat → Prop} {w w' : World} {v : Value} {xs : List Int} (h : IntsK k w v xs) (K : Kept S w w') (hS : ∀ b, v.ownBlock = some b → 0 < xs.length → ¬ S b) : IntsK k w' v xs := by
  rcases h with h | ⟨b, off, cap, rfl, hb, hc⟩
  · exact .inl h
  · refine .inr ⟨b, off, cap, rfl, Nat.lt_of_lt_of_le hb K.size, fun j x hx => (K.cell (a := ⟨b, off + j, none⟩) hb (hS b rfl (by have := (List.getElem?_eq_some_iff.1 hx).1; omega))).trans (hc j x hx)⟩
theorem IntsK.same {w w' : World} {v : Value} {xs : List Int} (h : IntsK k w v xs) (K : Kept (fun _ => False) w w') : IntsK k w' v xs := h.kept K (fun _ _ _ h => h)
theorem IntsK.block {w : World} {v : Value} {xs : List Int} (h : IntsK k w v xs) {b : Nat} (hb : v.ownBlock = some b) (hx : 0 < xs.length) : b < w.heap.size := by
  obtain ⟨b', off, cap, rfl, hb', -⟩ := h.pos hx
  simp [Value.ownBlock] at hb
  omega
/-- A block of numbers. -/
theorem IntsK.lit {w : World} {b n cap : Nat} {cs : Array Value} {xs : List Int} (hb : b < w.heap.size) (hn : xs.length = n) (hc : ∀ j, w.cell? ⟨b, j, none⟩ = cs[j]?) (hcs : cs.toList = xs.map (Value.int k)) : IntsK k w (.slice (some ⟨b, 0, none⟩) n cap) xs := by
  subst hn
  refine .inr ⟨b, 0, cap, rfl, hb, fun j x hx => ?_⟩
  rw [Nat.zero_add, hc, ← Array.getElem?_toList, hcs, List.getElem?_map, hx]
  rfl
/-- A block of numbers, just made. -/
theorem IntsK.new {w : World} {t n cap b : Nat} {cs : Array Value} (xs : List Int) (hb : b = w.heap.size) (hn : xs.length = n) (hcs : cs.toList = xs.map (Value.int k)) : IntsK k (w.alloc (.cells cs t)) (.slice (some ⟨b, 0, none⟩) n cap) xs :=
  .lit (by simp [hb]) hn (fun j => World.cell?_alloc_at _ _ _ _ hb) hcs
end Go.Proofs.YtjlcchjcppkbjaaDoor
/- Arguments opened as the walk wants them: a slice of numbers, a struct of two numbers. -/
namespace Go.Proofs.YtjlcchjcppkbjaaDoor
open Go.RowKit Go.ChangeShapes Go.WideShapes Go.ChangeAt
variable {H : Type} {enc : TypeId × Value → H} {P : Program}

theorem open_ints2 {t e : TypeId} {k : IntKind} {W : World} {base : Nat} {v : Value} {d : DataW H} {ps : List MemPlace} (ht : P.underlying t = some (.slice e)) (he : P.underlying e = some (.int k)) (hc : P.cellsOf e = 1)
    (hv : Value.okWide P W .any base t v) (h : DataW.Trod enc P W 0 (fun _ => true) true t v d ps) :
    ∃ xs : List Int, IntsK k W v xs ∧ xs.length ≤ maxLen ∧ ∀ x ∈ xs, (Lit.int k x).wf = true := by
  obtain ⟨p, cap, xs, rfl, hl, hx⟩ := slice_ints ht he hc hv h
  refine ⟨xs, ?_, hl, fun x hx' => ?_⟩
  · rcases Nat.eq_zero_or_pos xs.length with h0 | h0
    · obtain rfl := List.eq_nil_of_length_eq_zero h0
      exact .inl ⟨p, cap, rfl, rfl⟩
    · obtain ⟨-, b, off, rfl, hb, -⟩ := hx 0 _ (List.getElem?_eq_getElem h0)
      refine .inr ⟨b, off, cap, rfl, hb, fun j x hj => ?_⟩
      obtain ⟨-, b', off', e, -, hc⟩ := hx j x hj
      injection e with e
      injection e with e1 e2 _
      subst e1 e2
      exact hc
  · obtain ⟨i, hi⟩ := List.getElem?_of_mem hx'
    exact (hx i x hi).1
theorem open_two {t : TypeId} {f0 f1 : Field} {k0 k1 : IntKind} {W : World} {base : Nat} {v : Value} {d : DataW H} {ps : List MemPlace} (ht : P.underlying t = some (.struct #[f0, f1])) (hc : P.cellsOf t = 2)
    (o0 : f0.offset = 0) (o1 : f1.offset = 1) (c0 : P.cellsOf f0.type = 1) (c1 : P.cellsOf f1.type = 1) (u0 : P.underlying f0.type = some (.int k0)) (u1 : P.underlying f1.type = some (.int k1))
    (hv : Value.okWide P W .any base t v) (h : DataW.Trod enc P W 0 (fun _ => true) true t v d ps) :
    ∃ a b : Int, v = .agg #[.int k0 a, .int k1 b] ∧ (Lit.int k0 a).wf = true ∧ (Lit.int k1 b).wf = true := by
  simp only [Value.okWide, ht] at hv
  obtain ⟨cs, rfl, h2, -⟩ := hv
  rw [hc] at h2
  obtain ⟨l⟩ := cs
  match l, h2 with
  | [x0, x1], _ =>
    obtain ⟨fuel, hf⟩ := h
    obtain ⟨y0, y1, n, -, -, g0, g1⟩ := trod_struct2 ht hf
    simp only [Value.cells, o0, o1, c0, c1] at g0 g1
    obtain ⟨n0, e0, -, w0⟩ := DataW.trod_int u0 g0
    obtain ⟨n1, e1, -, w1⟩ := DataW.trod_int u1 g1
    simp at e0 e1
    subst e0 e1
    exact ⟨n0, n1, rfl, w0, w1⟩
end Go.Proofs.YtjlcchjcppkbjaaDoor
/- append of one element to a row of the call's own: the row's block afterwards is the old one, or a new one. -/
namespace Go.Proofs.YtjlcchjcppkbjaaDoor
open Go.RowKit
variable {P : Program}
theorem growslice_ok {n m cap b : Nat} (hcap : cap < n + m) (h : (n + m) * b ≤ 140737488355328) : Builtin.nextslicecap (n + m) cap * b ≤ 281474976710656 := growslice_fits hcap h
theorem run_append_new (w : World) (base : Nat) (t ty e : TypeId) (i : TypeInfo) (z : Value) (size bytes : Nat) (ht : P.underlying t = some (.slice e)) (hi : P.info? e = some i) (hz : i.zero = some z)
    (hsize : i.size = size) (hby : i.bytes = bytes) (hzs : z.cells.size = size) (hsz : 0 < size)
    (v : Value) (n : Nat) (xs : List Value) (hown : w.ownsRow base e size v n xs)
    (a : Addr) (m c : Nat) (news : List Value) (hl : news.length = m * size) (hnews : ∀ j u, news[j]? = some u → w.cell? (a.add j) = some u) (h1 : ∀ u ∈ news, u.oneCell' = true)
    (h63 : n + m ≤ maxLen) (hbytes : (n + m) * bytes ≤ 140737488355328) (hbase : base ≤ w.heap.size) (hm : 0 < m) :
    ∃ v' w', (Builtin.append_ #[t, t] ty #[v, .slice (some a) m c]).run P w = .ok v' w' ∧ w'.ownsRow base e size v' (n + m) (xs ++ news) ∧ w.grownBy w' v.ownBlock ∧
      (v'.ownBlock = v.ownBlock ∨ v'.ownBlock = some w.heap.size) := by
  obtain ⟨v', w', hr, h2, h3, -⟩ := run_append_own (P := P) w base t ty e i z size bytes ht hi hz hsize hby hzs hsz v n xs hown a m c news hl hnews h1 h63 hbytes hbase
  refine ⟨v', w', hr, h2, h3, ?_⟩
  subst hsize
  subst hby
  have hsmall : n + m ≤ 9223372036854775807 := by simp only [maxLen] at h63; omega
  rcases hown.2 with ⟨rfl, rfl⟩ | ⟨g, cap, cur, rfl, hbg, hg, hnc, hcm, hcs, htake⟩
  · right
    have hq := run_append_nil (P := P) w t ty e i z ht hi hz a m c news hl hnews (by omega) (by omega) (by have hb := hbytes; simp only [Nat.zero_add] at hb; omega)
    rw [hr] at hq
    injection hq with hq _
    rw [hq]; rfl
  · by_cases hroom : n + m ≤ cap
    · left
      have hfit : n * i.size + news.length ≤ cur.size := by rw [hl, hcs, ← Nat.add_mul]; exact Nat.mul_le_mul_right _ hroom
      have hq := run_append_room (P := P) w t ty e i ht hi g n cap cur hg a m c news hl hnews h1 hroom hfit
      rw [hr] at hq
      injection hq with hq _
      rw [hq]; rfl
    · right
      have holds : ∀ j u, xs[j]? = some u → w.cell? ((⟨g, 0, none⟩ : Addr).add j) = some u := hown.cells (g := g) rfl
      have hq := run_append_grow (P := P) w t ty e i z ht hi hz ⟨g, 0, none⟩ n cap xs hown.1 holds a m c news hl hnews (by omega) (by omega) (growslice_fits (by omega) hbytes)
      rw [hr] at hq
      injection hq with hq _
      rw [hq]; rfl
theorem wpList_app2 {t e size bytes : Nat} (E : ElemOk P t e size bytes) {ops : Array Oper} {rest : List Oper} {o : Oper} {a : Act} {Q : Exit → Act → World → Prop} (hgd : o.guard = none) (s x : Operand)
    (ho : o.op = .call { callee := .builtin .append, args := #[s, x], argTypes := #[t, t] }) {W : World} {news : List Value} (base : Nat) (v : Value) (n : Nat) (xs : List Value) (hs : a.eval s = v)
    (hown : W.ownsRow base e size v n xs) (hx : a.eval x = .slice (some ⟨W.heap.size, 0, none⟩) 1 1) (hl : news.length = size) (h1 : ∀ u ∈ news, u.oneCell' = true)
    (h63 : n + 1 ≤ maxLen) (hbytes : (n + 1) * bytes ≤ 140737488355328) (hbase : base ≤ W.heap.size)
    (h : ∀ g cap w', w'.ownsRow base e size (.slice (some ⟨g, 0, none⟩) (n + 1) cap) (n + 1) (xs ++ news) → Kept (fun b => v.ownBlock = some b) W w' → (v.ownBlock = some g ∨ W.heap.size ≤ g) → wpList P ops Q rest (a.put o.dst (.slice (some ⟨g, 0, none⟩) (n + 1) cap)) w') :
    wpList P ops Q (o :: rest) a (W.alloc (.cells news.toArray e)) := by
  obtain ⟨i, z, hi, hz, hsz, hby, hzs⟩ := E.info
  have hnews : ∀ j u, news[j]? = some u → (W.alloc (.cells news.toArray e)).cell? ((⟨W.heap.size, 0, none⟩ : Addr).add j) = some u := by
    intro j u hj
    have : (⟨W.heap.size, 0, none⟩ : Addr).add j = ⟨W.heap.size, j, none⟩ := by unfold Addr.add; split <;> simp_all
    rw [this, World.cell?_alloc_at _ _ _ _ rfl]
    simpa using hj
  obtain ⟨v', w', hr, hown', hg, hor⟩ := run_append_new (P := P) (W.alloc (.cells news.toArray e)) base t o.type e i z size bytes E.under hi hz hsz hby hzs E.pos v n xs (hown.alloc _) ⟨W.heap.size, 0, none⟩ 1 1 news (by omega) hnews h1 h63 hbytes (by simp; omega) (by omega)
  refine wpList_plain hgd fun _ hK => ?_
  unfold Oper.wp execOp
  simp only [ho, resolve, invoke, builtin, Sem.run_bind, Sem.run_pure, Result.andThen_ok, List.map_toArray, List.map_cons, List.map_nil, hs, hx, hr]
  have hex : ∃ g cap, v' = .slice (some ⟨g, 0, none⟩) (n + 1) cap := by
    rcases hown'.2 with ⟨-, h0⟩ | ⟨g, cap, cur, hv, -⟩
    · omega
    · exact ⟨g, cap, hv⟩
  obtain ⟨g, cap, rfl⟩ := hex
  refine hK _ _ (h g cap w' hown' (((Kept.refl (fun b => v.ownBlock = some b) W).alloc _).trans (Kept.of_grown hg) (fun i _ hi => hi)) ?_)
  rcases hor with hor | hor
  · left; rw [← hor]; rfl
  · right
    simp [Value.ownBlock] at hor
    omega
end Go.Proofs.YtjlcchjcppkbjaaDoor
/- append of m elements, just built, to a row of the call's own; append of a slice's elements of any size. -/
namespace Go.Proofs.YtjlcchjcppkbjaaDoor
open Go.RowKit
variable {P : Program}
theorem wpList_appS {t e size bytes : Nat} (E : ElemOk P t e size bytes) {ops : Array Oper} {rest : List Oper} {o : Oper} {a : Act} {Q : Exit → Act → World → Prop} (hgd : o.guard = none) (s x : Operand)
    (ho : o.op = .call { callee := .builtin .append, args := #[s, x], argTypes := #[t, t] }) {W : World} (base : Nat) (v : Value) (n : Nat) (xs : List Value) (hs : a.eval s = v)
    (hown : W.ownsRow base e size v n xs) (b off m c : Nat) (news : List Value) (hx : a.eval x = .slice (some ⟨b, off, none⟩) m c) (hl : news.length = m * size) (hm : 0 < m) (h1 : ∀ u ∈ news, u.oneCell' = true)
    (hc : W.rangeAt b off news) (h63 : n + m ≤ maxLen) (hbytes : (n + m) * bytes ≤ 140737488355328) (hbase : base ≤ W.heap.size)
    (h : ∀ g cap w', w'.ownsRow base e size (.slice (some ⟨g, 0, none⟩) (n + m) cap) (n + m) (xs ++ news) → Kept (fun b => v.ownBlock = some b) W w' → (v.ownBlock = some g ∨ W.heap.size ≤ g) → wpList P ops Q rest (a.put o.dst (.slice (some ⟨g, 0, none⟩) (n + m) cap)) w') :
    wpList P ops Q (o :: rest) a W := by
  obtain ⟨i, z, hi, hz, hsz, hby, hzs⟩ := E.info
  obtain ⟨v', w', hr, hown', hg, hor⟩ := run_append_new (P := P) W base t o.type e i z size bytes E.under hi hz hsz hby hzs E.pos v n xs hown ⟨b, off, none⟩ m c news hl (fun j u hj => by rw [Addr.add_mid]; exact hc j u hj) h1 h63 hbytes hbase hm
  refine wpList_plain hgd fun _ hK => ?_
  unfold Oper.wp execOp
  simp only [ho, resolve, invoke, builtin, Sem.run_bind, Sem.run_pure, Result.andThen_ok, List.map_toArray, List.map_cons, List.map_nil, hs, hx, hr]
  have hex : ∃ g cap, v' = .slice (some ⟨g, 0, none⟩) (n + m) cap := by
    rcases hown'.2 with ⟨-, h0⟩ | ⟨g, cap, cur, hv, -⟩
    · omega
    · exact ⟨g, cap, hv⟩
  obtain ⟨g, cap, rfl⟩ := hex
  refine hK _ _ (h g cap w' hown' (Kept.of_grown hg) ?_)
  rcases hor with hor | hor
  · left; rw [← hor]; rfl
  · right
    simp [Value.ownBlock] at hor
    omega
/-- m elements just built. -/
theorem wpList_appN {t e size bytes : Nat} (E : ElemOk P t e size bytes) {ops : Array Oper} {rest : List Oper} {o : Oper} {a : Act} {Q : Exit → Act → World → Prop} (hgd : o.guard = none) (s x : Operand)
    (ho : o.op = .call { callee := .builtin .append, args := #[s, x], argTypes := #[t, t] }) {W : World} {news : List Value} (base : Nat) (v : Value) (n m : Nat) (xs : List Value) (hs : a.eval s = v)
    (hown : W.ownsRow base e size v n xs) (hx : a.eval x = .slice (some ⟨W.heap.size, 0, none⟩) m m) (hl : news.length = m * size) (hm : 0 < m) (h1 : ∀ u ∈ news, u.oneCell' = true)
    (h63 : n + m ≤ maxLen) (hbytes : (n + m) * bytes ≤ 140737488355328) (hbase : base ≤ W.heap.size)
    (h : ∀ g cap w', w'.ownsRow base e size (.slice (some ⟨g, 0, none⟩) (n + m) cap) (n + m) (xs ++ news) → Kept (fun b => v.ownBlock = some b) W w' → (v.ownBlock = some g ∨ W.heap.size ≤ g) → wpList P ops Q rest (a.put o.dst (.slice (some ⟨g, 0, none⟩) (n + m) cap)) w') :
    wpList P ops Q (o :: rest) a (W.alloc (.cells news.toArray e)) := by
  refine wpList_appS E hgd s x ho base v n xs hs (hown.alloc _) W.heap.size 0 m m news hx hl hm h1 ?_ h63 hbytes (by simp; omega) ?_
  · intro j u hj
    rw [World.cell?_alloc_at _ _ _ _ rfl, Nat.zero_add]
    simpa using hj
  · intro g cap w' h2 K hor
    refine h g cap w' h2 (((Kept.refl (fun b => v.ownBlock = some b) W).alloc _).trans K (fun i _ hi => hi)) ?_
    rcases hor with h | h
    · exact .inl h
    · simp at h; right; omega
/-- However many. -/
theorem wpList_appA {t e size bytes : Nat} (E : ElemOk P t e size bytes) {ops : Array Oper} {rest : List Oper} {o : Oper} {a : Act} {Q : Exit → Act → World → Prop} (hgd : o.guard = none) (s x : Operand)
    (ho : o.op = .call { callee := .builtin .append, args := #[s, x], argTypes := #[t, t] }) {W : World} (base : Nat) (v : Value) (n : Nat) (xs : List Value) (hs : a.eval s = v)
    (hown : W.ownsRow base e size v n xs) (b off m c : Nat) (news : List Value) (hx : a.eval x = .slice (some ⟨b, off, none⟩) m c) (hl : news.length = m * size) (h1 : ∀ u ∈ news, u.oneCell' = true)
    (hc : W.rangeAt b off news) (h63 : n + m ≤ maxLen) (hbytes : (n + m) * bytes ≤ 140737488355328) (hbase : base ≤ W.heap.size)
    (h : ∀ v' w', w'.ownsRow base e size v' (n + m) (xs ++ news) → Kept (fun b => v.ownBlock = some b) W w' → wpList P ops Q rest (a.put o.dst v') w') :
    wpList P ops Q (o :: rest) a W := by
  obtain ⟨i, z, hi, hz, hsz, hby, hzs⟩ := E.info
  refine wpList_append_own _ hgd s x t ho base e i z size bytes E.under hi hz hsz hby hzs E.pos v n xs hs hown ⟨b, off, none⟩ m c news hx hl ?_ h1 h63 hbytes hbase ?_
  · intro j u hj
    rw [Addr.add_mid]
    exact hc j u hj
  · intro v' w' hown' hg _
    exact h v' w' hown' (Kept.of_grown hg)
/-- Nothing, out of a nil slice. -/
theorem wpList_appNil {t e size bytes : Nat} (E : ElemOk P t e size bytes) {ops : Array Oper} {rest : List Oper} {o : Oper} {a : Act} {Q : Exit → Act → World → Prop} (hgd : o.guard = none) (s x : Operand)
    (ho : o.op = .call { callee := .builtin .append, args := #[s, x], argTypes := #[t, t] }) {W : World} (base : Nat) (v : Value) (n : Nat) (xs : List Value) (hs : a.eval s = v)
    (hown : W.ownsRow base e size v n xs) (hx : a.eval x = .slice none 0 0) (h : wpList P ops Q rest (a.put o.dst v) W) : wpList P ops Q (o :: rest) a W := by
  obtain ⟨i, z, hi, -, hsz, -, -⟩ := E.info
  exact wpList_append_own_none hgd s x t ho base e i size E.under hi v n xs hs hown hx h
end Go.Proofs.YtjlcchjcppkbjaaDoor
/- append of whatever reads as numbers, to a row of the call's own. -/
namespace Go.Proofs.YtjlcchjcppkbjaaDoor
open Go.RowKit
variable {P : Program}
theorem src_none {size : Nat} {tx e' : TypeId} (w : World) (hk : P.underlying tx = some (.slice e')) (a : Option Addr) (c : Nat) : Src P size tx (.slice a 0 c) 0 [] w := by
  cases a with
  | none => exact Src.ofNil w hk c
  | some a => exact Src.ofSlice w hk a 0 c [] (by simp) (fun j u h => by simp at h) (fun u h => by cases h)
theorem wpList_appInts {t e : Nat} (E : ElemOk P t e 1 8) {ops : Array Oper} {rest : List Oper} {o : Oper} {a : Act} {Q : Exit → Act → World → Prop} (hgd : o.guard = none) (s x : Operand)
    (ho : o.op = .call { callee := .builtin .append, args := #[s, x], argTypes := #[t, t] }) {W : World} (base : Nat) (v u : Value) (n : Nat) (xs : List Value) (ys : List Int) (hs : a.eval s = v) (hx : a.eval x = u)
    (hown : W.ownsRow base e 1 v n xs) (hu : Ints W u ys) (h63 : n + ys.length ≤ 1000000000) (hbase : base ≤ W.heap.size)
    (h : ∀ v' w', w'.ownsRow base e 1 v' (n + ys.length) (xs ++ ys.map (Value.int .i64)) → Kept (fun b => v.ownBlock = some b) W w' → wpList P ops Q rest (a.put o.dst v') w') :
    wpList P ops Q (o :: rest) a W := by
  rcases hu with ⟨b, cap, rfl, rfl⟩ | ⟨b, off, cap, rfl, hb, hc⟩
  · have h' := h v W (by simpa using hown) (Kept.refl _ _)
    obtain ⟨i, z, hi, -, -, -, -⟩ := E.info
    obtain ⟨av, cv, rfl, hcv⟩ : ∃ av cv, v = .slice av n cv ∧ n ≤ cv := by
      rcases hown.2 with ⟨rfl, h0⟩ | ⟨g, cv, cur, rfl, hbg, hg, hnc, -⟩
      · exact ⟨none, 0, by rw [h0], by omega⟩
      · exact ⟨_, cv, rfl, hnc⟩
    have hr := run_append_nothing (P := P) W t t o.type e i E.under hi av n cv hcv (.slice b 0 cap) (src_none W E.under b cap)
    refine wpList_plain hgd fun _ hK => ?_
    unfold Oper.wp execOp
    simp only [ho, resolve, invoke, builtin, Sem.run_bind, Sem.run_pure, Result.andThen_ok, List.map_toArray, List.map_cons, List.map_nil, hs, hx, hr]
    exact hK _ _ h'
  · refine wpList_appA E hgd s x ho base v n xs hs hown b off ys.length cap (ys.map (Value.int .i64)) hx (by simp) ?_ ?_ (by unfold maxLen; omega) (by omega) hbase h
    · intro u hu
      obtain ⟨y, -, rfl⟩ := List.mem_map.1 hu
      rfl
    · intro j u hj
      rw [List.getElem?_map] at hj
      obtain ⟨y, hy, rfl⟩ := Option.map_eq_some_iff.1 hj
      exact hc j y hy
/-- A row without elements, just made. -/
theorem own_empty (w : World) (t size : Nat) : (w.alloc (.cells #[] t)).ownsRow w.heap.size t size (.slice (some ⟨w.heap.size, 0, none⟩) 0 0) 0 [] := by
  refine ⟨by simp, .inr ⟨w.heap.size, 0, #[], rfl, Nat.le_refl _, ?_, by simp, by simp, by simp, by simp⟩⟩
  show (w.heap.push _)[w.heap.size]? = _
  rw [Array.getElem?_push_size]
/-- One cell of a row of the call's own is stored. -/
theorem ownsRow_putAt {W : World} {base e size g n cg : Nat} {xs : List Value} (h : W.ownsRow base e size (.slice (some ⟨g, 0, none⟩) n cg) n xs) (j : Nat) (y : Value) :
    (W.setCell ⟨g, j, none⟩ y).ownsRow base e size (.slice (some ⟨g, 0, none⟩) n cg) n (xs.set j y) := by
  refine ⟨by rw [List.length_set]; exact h.1, ?_⟩
  rcases h.2 with ⟨q, -⟩ | ⟨g', cap', cur, q, hg, hh, h1, h2, h3, h4⟩
  · cases q
  · injection q with q q2 q3
    injection q with q
    injection q with q
    subst q q3
    refine .inr ⟨g, cg, cur.setIfInBounds j y, rfl, hg, ?_, h1, h2, by simpa using h3, ?_⟩
    · simp [World.setCell, Array.getElem?_modify, hh]
    · rw [Array.toList_setIfInBounds, List.take_set, h4]
theorem ownsRow_frozen {W : World} {base e size g n cg : Nat} {xs : List Value} (h : W.ownsRow base e size (.slice (some ⟨g, 0, none⟩) n cg) n xs) (j : Nat) : W.frozen? ⟨g, j, none⟩ = false := by
  rcases h.2 with ⟨q, -⟩ | ⟨g', cap', cur, q, hg, hh, -⟩
  · cases q
  · injection q with q q2 q3
    injection q with q
    injection q with q
    subst q
    simp [World.frozen?, hh]
end Go.Proofs.YtjlcchjcppkbjaaDoor
/- Elements of an array by value. -/
namespace Go.Proofs.YtjlcchjcppkbjaaDoor
open Go.RowKit
variable {P : Program}
theorem run_index1 (t e n : Nat) (cs : Array Value) (j : Nat) (v : Value) (w : World) (hu : P.underlying t = some (.array n e)) (ha : ∀ w, (isAgg e).run P w = .ok false w) (hz : ∀ w, (sizeOf e).run P w = .ok 1 w)
    (hj : j < n) (hv : cs[j]? = some v) : (Instr.index t (.agg cs) (.int .i64 j)).run P w = .ok v w := by
  have h1 : (0 : Int) ≤ (j : Int) ∧ (j : Int) < (n : Int) := by omega
  simp [Instr.index, run_underlying hu, asIntOf, h1, part, ha, hz, hv, go_sem]
  intro h; omega
theorem run_indexN (t e n m : Nat) (cs : Array Value) (j : Nat) (w : World) (hu : P.underlying t = some (.array n e)) (ha : ∀ w, (isAgg e).run P w = .ok true w) (hz : ∀ w, (sizeOf e).run P w = .ok m w)
    (hj : j < n) : (Instr.index t (.agg cs) (.int .i64 j)).run P w = .ok (.agg (cs.extract (j * m) (j * m + m))) w := by
  have h1 : (0 : Int) ≤ (j : Int) ∧ (j : Int) < (n : Int) := by omega
  simp [Instr.index, run_underlying hu, asIntOf, h1, part, ha, hz, go_sem]
  intro h; omega
end Go.Proofs.YtjlcchjcppkbjaaDoor
/- A block of cells that the call may write. -/
namespace Go.Proofs.YtjlcchjcppkbjaaDoor
open Go.RowKit

structure RowAt (w : World) (b : Nat) (vs : List Value) : Prop where
  cell : w.rangeAt b 0 vs
  fz : ∀ o, w.frozen? ⟨b, o, none⟩ = false
  lt : b < w.heap.size
namespace RowAt
variable {S : Nat → Prop} {w w' : World} {b : Nat} {vs : List Value}
theorem get (h : RowAt w b vs) {j : Nat} {v : Value} (hv : vs[j]? = some v) : w.cell? ⟨b, j, none⟩ = some v := by
  have := h.cell j v hv
  rwa [Nat.zero_add] at this
theorem kept (h : RowAt w b vs) (K : Kept S w w') (hS : ¬ S b) : RowAt w' b vs :=
  ⟨fun j v hv => (K.cell (a := ⟨b, 0 + j, none⟩) h.lt hS).trans (h.cell j v hv), fun o => (K.frozen (a := ⟨b, o, none⟩) h.lt hS).trans (h.fz o), Nat.lt_of_lt_of_le h.lt K.size⟩
theorem same (h : RowAt w b vs) (K : Kept (fun _ => False) w w') : RowAt w' b vs := h.kept K (fun h => h)
theorem there (h : RowAt w b vs) : w.there b 0 vs.length := fun j hj => ⟨by
  have hv : vs[j]? = some vs[j] := List.getElem?_eq_getElem hj
  rw [h.cell j _ hv]; rfl, h.fz _⟩
theorem set (h : RowAt w b vs) {j : Nat} (hj : j < vs.length) (v : Value) : RowAt (w.setCell ⟨b, j, none⟩ v) b (vs.set j v) where
  cell := fun i u hu => by
    have hv : vs[j]? = some vs[j] := List.getElem?_eq_getElem hj
    rw [Nat.zero_add]
    by_cases e : i = j
    · subst e
      rw [List.getElem?_set_self hj] at hu
      injection hu with hu
      subst hu
      exact cell_set_at _ (h.get hv)
    · rw [List.getElem?_set_ne (fun q => e q.symm)] at hu
      rw [cell_set_off _ _ _ _ _ e]
      exact h.get hu
  fz := fun o => by rw [World.frozen?_setCell]; exact h.fz o
  lt := by have := h.lt; simpa using this
theorem new (w : World) (t : Nat) (cs : Array Value) : RowAt (w.alloc (.cells cs t)) w.heap.size cs.toList where
  cell := fun j v hv => by rw [Nat.zero_add, World.cell?_alloc_at _ _ _ _ rfl]; simpa using hv
  fz := fun o => by rw [World.frozen?_alloc_at _ _ _ _ rfl]
  lt := by simp
theorem store (h : RowAt w b vs) (us : List Value) (hl : us.length = vs.length) : RowAt (w.setCells b 0 us) b us where
  cell := World.rangeAt_setCells_same w b 0 us (by rw [hl]; exact h.there)
  fz := fun o => by rw [World.frozen?_setCells]; exact h.fz o
  lt := by
    have : ∀ (us : List Value) (o : Nat) (w : World), (w.setCells b o us).heap.size = w.heap.size := by
      intro us
      induction us with
      | nil => intro o w; rfl
      | cons v r ih => intro o w; rw [World.setCells, ih]; simp
    rw [this]; exact h.lt
end RowAt
theorem Kept.setCells {S : Nat → Prop} {w w' : World} (h : Kept S w w') (b : Nat) (vs : List Value) (hb : b < w.heap.size → S b) : ∀ o, Kept S w (w'.setCells b o vs) := by
  induction vs generalizing w' with
  | nil => intro o; exact h
  | cons v r ih => intro o; rw [World.setCells]; exact ih (h.setCell _ _ hb) _
/-- A block of numbers. -/
abbrev NumsAt (w : World) (b : Nat) (l : List Int) : Prop := RowAt w b (l.map (Value.int .i64))
theorem NumsAt.set {w : World} {b : Nat} {l : List Int} (h : NumsAt w b l) {j : Nat} (hj : j < l.length) (x : Int) : NumsAt (w.setCell ⟨b, j, none⟩ (.int .i64 x)) b (l.set j x) := by
  have := RowAt.set h (j := j) (by simpa using hj) (.int .i64 x)
  unfold NumsAt
  rw [List.map_set]
  exact this
theorem NumsAt.get {w : World} {b : Nat} {l : List Int} (h : NumsAt w b l) {j : Nat} (hj : j < l.length) : w.cell? ⟨b, j, none⟩ = some (.int .i64 (l.getD j 0)) :=
  RowAt.get h (by rw [List.getElem?_map, List.getElem?_eq_getElem hj, List.getD_eq_getElem?_getD, List.getElem?_eq_getElem hj]; rfl)
end Go.Proofs.YtjlcchjcppkbjaaDoor
/- Slices of structs of n cells each, whatever they are. -/
namespace Go.Proofs.YtjlcchjcppkbjaaDoor
open Go.RowKit
variable {α : Type} {f : α → List Value} {n : Nat}

/-- The cells of a list. -/
def cellsL (f : α → List Value) (l : List α) : List Value := l.flatMap f
theorem cellsL_cons (x : α) (l : List α) : cellsL f (x :: l) = f x ++ cellsL f l := rfl
theorem cellsL_append (l m : List α) : cellsL f (l ++ m) = cellsL f l ++ cellsL f m := by simp [cellsL]
theorem cellsL_one (x : α) : cellsL f [x] = f x := by simp [cellsL]
theorem cellsL_length (hf : ∀ x, (f x).length = n) (l : List α) : (cellsL f l).length = l.length * n := by
  induction l with
  | nil => simp [cellsL]
  | cons x l ih => rw [cellsL_cons, List.length_append, ih, hf, List.length_cons, Nat.succ_mul]; omega
theorem cellsL_get (hf : ∀ x, (f x).length = n) {l : List α} {j i : Nat} {x : α} (h : l[j]? = some x) (hi : i < n) : (cellsL f l)[j * n + i]? = (f x)[i]? := by
  induction l generalizing j with
  | nil => simp at h
  | cons y l ih =>
    rw [cellsL_cons]
    cases j with
    | zero =>
      simp at h; subst h
      rw [Nat.zero_mul, Nat.zero_add, List.getElem?_append_left (by rw [hf]; exact hi)]
    | succ j =>
      simp at h
      rw [Nat.succ_mul, List.getElem?_append_right (by rw [hf]; omega), hf]
      have e : j * n + n + i - n = j * n + i := by omega
      rw [e]
      exact ih h
theorem cellsL_all (hf : ∀ x, ∀ u ∈ f x, u.oneCell' = true) (l : List α) : ∀ u ∈ cellsL f l, u.oneCell' = true := by
  intro u hu
  obtain ⟨x, -, hu⟩ := List.mem_flatMap.1 hu
  exact hf x u hu
/-- A place inside one of the structs. -/
theorem cellsL_inv (hf : ∀ x, (f x).length = n) {l : List α} {j : Nat} {u : Value} (h : (cellsL f l)[j]? = some u) : ∃ x, l[j / n]? = some x ∧ (f x)[j % n]? = some u := by
  have hj := (List.getElem?_eq_some_iff.1 h).1
  rw [cellsL_length hf] at hj
  have hn : 0 < n := by
    rcases Nat.eq_zero_or_pos n with h0 | h0
    · subst h0; simp at hj
    · exact h0
  have hq : j / n < l.length := Nat.div_lt_of_lt_mul (by rw [Nat.mul_comm]; exact hj)
  have hx : l[j / n]? = some l[j / n] := List.getElem?_eq_getElem hq
  refine ⟨_, hx, ?_⟩
  rw [← cellsL_get hf hx (Nat.mod_lt _ hn), Nat.mul_comm, Nat.div_add_mod, h]
/-- The structs xs lie in block b from off on. -/
def RowsAt (f : α → List Value) (n : Nat) (w : World) (b off : Nat) (xs : List α) : Prop := ∀ j x, xs[j]? = some x → ∀ i u, (f x)[i]? = some u → w.cell? ⟨b, off + j * n + i, none⟩ = some u
/-- The slice v reads as the structs xs. -/
def Rows (f : α → List Value) (n : Nat) (w : World) (v : Value) (xs : List α) : Prop :=
  (∃ a cap, v = .slice a 0 cap ∧ xs = []) ∨ ∃ b off cap, v = .slice (some ⟨b, off, none⟩) xs.length cap ∧ xs.length ≤ cap ∧ b < w.heap.size ∧ RowsAt f n w b off xs
theorem Rows.len {w : World} {v : Value} {xs : List α} (h : Rows f n w v xs) : ∃ a cap, v = .slice a xs.length cap := by
  rcases h with ⟨a, cap, rfl, rfl⟩ | ⟨b, off, cap, rfl, -⟩
  · exact ⟨a, cap, rfl⟩
  · exact ⟨_, cap, rfl⟩
theorem Rows.pos {w : World} {v : Value} {xs : List α} (h : Rows f n w v xs) (hp : 0 < xs.length) : ∃ b off cap, v = .slice (some ⟨b, off, none⟩) xs.length cap ∧ xs.length ≤ cap ∧ b < w.heap.size ∧ RowsAt f n w b off xs := by
  rcases h with ⟨a, cap, rfl, rfl⟩ | h
  · simp at hp
  · exact h
theorem RowsAt.kept {S : Nat → Prop} {w w' : World} {b off : Nat} {xs : List α} (h : RowsAt f n w b off xs) (hb : b < w.heap.size) (K : Kept S w w') (hS : ¬ S b) : RowsAt f n w' b off xs := fun j x hx i u hu =>
  (K.cell (a := ⟨b, off + j * n + i, none⟩) hb hS).trans (h j x hx i u hu)
theorem Rows.kept {S : Nat → Prop} {w w' : World} {v : Value} {xs : List α} (h : Rows f n w v xs) (K : Kept S w w') (hS : ∀ b, v.ownBlock = some b → 0 < xs.length → ¬ S b) : Rows f n w' v xs := by
  rcases h with h | ⟨b, off, cap, rfl, hcap, hb, hc⟩
  · exact .inl h
  · cases xs with
    | nil => exact .inl ⟨_, cap, rfl, rfl⟩
    | cons x xs => exact .inr ⟨b, off, cap, rfl, hcap, Nat.lt_of_lt_of_le hb K.size, hc.kept hb K (hS b rfl (by simp))⟩
theorem Rows.same {w w' : World} {v : Value} {xs : List α} (h : Rows f n w v xs) (K : Kept (fun _ => False) w w') : Rows f n w' v xs := h.kept K (fun _ _ _ h => h)
theorem Rows.block {w : World} {v : Value} {xs : List α} (h : Rows f n w v xs) {b : Nat} (hb : v.ownBlock = some b) (hx : 0 < xs.length) : b < w.heap.size := by
  obtain ⟨b', off, cap, rfl, _, hb', -⟩ := h.pos hx
  simp [Value.ownBlock] at hb
  omega
theorem Rows.of_own {w : World} {base e : Nat} {v : Value} {xs : List α} (hf : ∀ x, (f x).length = n) (h : w.ownsRow base e n v xs.length (cellsL f xs)) : Rows f n w v xs := by
  rcases h.2 with ⟨rfl, h0⟩ | ⟨g, cap, cur, rfl, hg, hh, hcap, -⟩
  · exact .inl ⟨none, 0, rfl, List.eq_nil_of_length_eq_zero h0⟩
  · refine .inr ⟨g, 0, cap, rfl, hcap, (Array.getElem?_eq_some_iff.1 hh).1, fun j x hx i u hu => ?_⟩
    have hj := (List.getElem?_eq_some_iff.1 hx).1
    have hi : i < n := by have := (List.getElem?_eq_some_iff.1 hu).1; rw [hf] at this; exact this
    have hjn : j * n + i < xs.length * n := by
      have : (j + 1) * n ≤ xs.length * n := Nat.mul_le_mul_right n hj
      rw [Nat.succ_mul] at this
      omega
    rw [Nat.zero_add, h.cellAt _ (by exact hjn), cellsL_get hf hx hi, hu]
theorem Rows.nil (f : α → List Value) (n : Nat) (w : World) : Rows f n w (.slice none 0 0) [] := .inl ⟨none, 0, rfl, rfl⟩
/-- The first k. -/
theorem Rows.take {w : World} {p : Option Addr} {m c : Nat} {xs : List α} (h : Rows f n w (.slice p m c) xs) {k : Nat} (hk : k ≤ xs.length) : Rows f n w (.slice p k c) (xs.take k) := by
  rcases Nat.eq_zero_or_pos k with h0 | h0
  · subst h0; exact .inl ⟨p, c, rfl, rfl⟩
  · obtain ⟨b, off, cap, hv, hcap, hb, hc⟩ := h.pos (by omega)
    injection hv with e1 e2 e3
    subst e1 e3
    have hl : (xs.take k).length = k := by rw [List.length_take]; omega
    refine .inr ⟨b, off, c, by rw [hl], by omega, hb, fun j x hx => ?_⟩
    have hj : j < k := by have := (List.getElem?_eq_some_iff.1 hx).1; omega
    rw [List.getElem?_take_of_lt hj] at hx
    exact hc j x hx
/-- All but the first k. -/
theorem Rows.drop {w : World} {b off m c : Nat} {xs : List α} (h : Rows f n w (.slice (some ⟨b, off, none⟩) m c) xs) {k : Nat} (hk : k ≤ xs.length) : Rows f n w (.slice (some ⟨b, off + k * n, none⟩) (m - k) (c - k)) (xs.drop k) := by
  obtain ⟨a, cap, hv⟩ := h.len
  injection hv with _ e2 _
  subst e2
  rcases Nat.eq_zero_or_pos (xs.length - k) with h0 | h0
  · exact .inl ⟨_, c - k, by rw [h0], List.eq_nil_of_length_eq_zero (by rw [List.length_drop]; exact h0)⟩
  · obtain ⟨b', off', cap, hv, hcap, hb, hc⟩ := h.pos (by omega)
    injection hv with e1 e2 e3
    injection e1 with e1
    injection e1 with e1 e1'
    subst e1 e1' e3
    refine .inr ⟨b, off + k * n, c - k, by rw [List.length_drop], by rw [List.length_drop]; omega, hb, fun j x hx i u hu => ?_⟩
    rw [List.getElem?_drop] at hx
    have := hc _ x hx i u hu
    rw [Nat.add_mul] at this
    rw [← this]
    congr 2
    omega
/-- A whole list, as a row of cells. -/
theorem Rows.range {w : World} {b off m c : Nat} {xs : List α} (hf : ∀ x, (f x).length = n) (h : Rows f n w (.slice (some ⟨b, off, none⟩) m c) xs) (h0 : 0 < xs.length) : w.rangeAt b off (cellsL f xs) := by
  obtain ⟨b', off', cap, hv, hcap, hb, hc⟩ := h.pos h0
  injection hv with e1 e2 e3
  injection e1 with e1
  injection e1 with e1 e1'
  subst e1 e1'
  intro j u hu
  obtain ⟨x, hx, hxu⟩ := cellsL_inv hf hu
  have := hc _ x hx _ u hxu
  rw [Nat.add_assoc, Nat.mul_comm, Nat.div_add_mod] at this
  exact this
end Go.Proofs.YtjlcchjcppkbjaaDoor
/- append of whatever reads as structs, to a row of the call's own. -/
namespace Go.Proofs.YtjlcchjcppkbjaaDoor
open Go.RowKit
variable {P : Program}
theorem wpList_appRows {α : Type} {f : α → List Value} {t e size bytes : Nat} (E : ElemOk P t e size bytes) (hf : ∀ x, (f x).length = size) (hone : ∀ x, ∀ u ∈ f x, u.oneCell' = true) {ops : Array Oper} {rest : List Oper} {o : Oper} {a : Act} {Q : Exit → Act → World → Prop} (hgd : o.guard = none) (s x : Operand)
    (ho : o.op = .call { callee := .builtin .append, args := #[s, x], argTypes := #[t, t] }) {W : World} (base : Nat) (v u : Value) (n : Nat) (xs : List Value) (ys : List α) (hs : a.eval s = v) (hx : a.eval x = u)
    (hown : W.ownsRow base e size v n xs) (hu : Rows f size W u ys) (h63 : n + ys.length ≤ maxLen) (hbytes : (n + ys.length) * bytes ≤ 140737488355328) (hbase : base ≤ W.heap.size)
    (h : ∀ v' w', w'.ownsRow base e size v' (n + ys.length) (xs ++ cellsL f ys) → Kept (fun b => v.ownBlock = some b) W w' → (∀ b, v'.ownBlock = some b → v.ownBlock = some b ∨ W.heap.size ≤ b) → wpList P ops Q rest (a.put o.dst v') w') :
    wpList P ops Q (o :: rest) a W := by
  rcases Nat.eq_zero_or_pos ys.length with h0 | h0
  · obtain rfl := List.eq_nil_of_length_eq_zero h0
    obtain ⟨b, cap, rfl⟩ := hu.len
    have h' := h v W (by simpa [cellsL] using hown) (Kept.refl _ _) (fun _ q => .inl q)
    obtain ⟨i, z, hi, -, -, -, -⟩ := E.info
    obtain ⟨av, cv, rfl, hcv⟩ : ∃ av cv, v = .slice av n cv ∧ n ≤ cv := by
      rcases hown.2 with ⟨rfl, h0⟩ | ⟨g, cv, cur, rfl, hbg, hg, hnc, -⟩
      · exact ⟨none, 0, by rw [h0], by omega⟩
      · exact ⟨_, cv, rfl, hnc⟩
    have hr := run_append_nothing (P := P) W t t o.type e i E.under hi av n cv hcv (.slice b 0 cap) (src_none W E.under b cap)
    refine wpList_plain hgd fun _ hK => ?_
    unfold Oper.wp execOp
    simp only [ho, resolve, invoke, builtin, Sem.run_bind, Sem.run_pure, Result.andThen_ok, List.map_toArray, List.map_cons, List.map_nil, hs, hx, List.length_nil, hr]
    exact hK _ _ h'
  · obtain ⟨b, off, cap, hv, hcap, hb, hc⟩ := hu.pos h0
    rw [hv] at hx hu
    refine wpList_appS E hgd s x ho base v n xs hs hown b off ys.length cap (cellsL f ys) hx (cellsL_length hf ys) h0 (cellsL_all hone ys) (hu.range hf h0) h63 hbytes hbase ?_
    intro g cap' w' hown' K hor
    refine h _ w' hown' K fun b' q => ?_
    injection q with q
    subst q
    exact hor
end Go.Proofs.YtjlcchjcppkbjaaDoor
/- The abstract arena: slots with uses, and the stack of those that were freed; how the program's arena stands for one. No program in sight. -/
namespace Go.Proofs.YtjlcchjcppkbjaaDoor

/-- A slot: how often it was used, whether it is taken, its number. -/
structure U where
  use : Int
  taken : Bool
  v : Int

/-- The abstract arena: the slots, and those that were freed and are not worn out, the last one first. -/
structure AA where
  sl : List U
  fl : List Nat

namespace AA
def empty (n : Nat) : AA := { sl := List.replicate n { use := 0, taken := false, v := 0 }, fl := [] }
def fill (a : AA) (k : Nat) (s : U) (v : Int) (fl : List Nat) : AA := { sl := a.sl.set k { use := s.use + 1, taken := true, v := v }, fl := fl }
/-- The slot that Put takes, and the stack behind it. -/
def pick (a : AA) : Option (Nat × U × List Nat) :=
  match a.fl with
  | k :: r => (a.sl[k]?).map fun s => (k, s, r)
  | [] => (a.sl[a.sl.findIdx (·.use == 0)]?).map fun s => (a.sl.findIdx (·.use == 0), s, [])
def put (a : AA) (v : Int) : AA × Int × Int :=
  match a.pick with
  | some (k, s, r) => (a.fill k s v r, 4096 * (s.use + 1) + k, 0)
  | none => (a, 0, 4)
def find (a : AA) (h : Int) : Option (Nat × U) :=
  if h < 4096 then none else
  match a.sl[(h % 4096).toNat]? with
  | some s => if s.taken = true ∧ 4096 * s.use + h % 4096 = h then some ((h % 4096).toNat, s) else none
  | none => none
def get (a : AA) (h : Int) : Int × Bool :=
  match a.find h with
  | some (_, s) => (s.v, true)
  | none => (0, false)
def free (a : AA) (h : Int) : AA × Int :=
  match a.find h with
  | some (k, s) => ({ sl := a.sl.set k { s with taken := false }, fl := if s.use = 2147483648 then a.fl else k :: a.fl }, 0)
  | none => (a, 5)
def len (a : AA) : Nat := a.sl.countP (·.taken)
def room (a : AA) : Nat := a.sl.countP fun s => !s.taken && s.use != 2147483648
def upto (a : AA) : List Nat := (List.range a.sl.length).filter fun j => match a.sl[j]? with | some s => s.taken | none => false
def hnd (a : AA) (k : Nat) : Int := match a.sl[k]? with | some s => 4096 * s.use + k | none => 0
def live (a : AA) : List Int := a.upto.map a.hnd
end AA

/-- The links of the freed slots. -/
def Chain (sl : List Sl) : Int → List Nat → Prop
  | f, [] => f = -1
  | f, k :: r => f = k ∧ ∃ s, sl[k]? = some s ∧ Chain sl s.next r

theorem Chain.set {sl : List Sl} {k : Nat} (t : Sl) : ∀ {f : Int} {fl : List Nat}, Chain sl f fl → k ∉ fl → Chain (sl.set k t) f fl
  | _, [], h, _ => h
  | f, j :: r, ⟨hf, s, hs, hc⟩, hn => by
    have hj : k ≠ j := fun e => hn (by simp [e])
    exact ⟨hf, s, by rw [List.getElem?_set_ne hj]; exact hs, hc.set t (fun h => hn (by simp [h]))⟩

def Sl.u (s : Sl) : U := { use := s.use, taken := s.taken, v := s.v }

/-- The arena A stands for a. -/
structure Rep (A : Ar) (a : AA) : Prop where
  sl : A.sl.map Sl.u = a.sl
  len : A.sl.length ≤ 4096
  chain : Chain A.sl A.freed a.fl
  nodup : a.fl.Nodup
  fr0 : 0 ≤ A.fresh
  fr1 : A.fresh ≤ A.sl.length
  old : ∀ (k : Nat) (s : Sl), A.sl[k]? = some s → (k : Int) < A.fresh → 1 ≤ s.use ∧ s.use ≤ 2147483648
  new : ∀ (k : Nat) (s : Sl), A.sl[k]? = some s → A.fresh ≤ k → s.use = 0 ∧ s.taken = false
  inl : ∀ k ∈ a.fl, ∃ s, A.sl[k]? = some s ∧ s.taken = false ∧ (k : Int) < A.fresh ∧ s.use ≠ 2147483648
  next : ∀ s ∈ A.sl, -1 ≤ s.next ∧ s.next < A.sl.length
  tk : A.taken = A.sl.countP (·.taken)
  lo : A.lost = A.sl.countP fun s => !s.taken && s.use == 2147483648

namespace Rep
variable {A : Ar} {a : AA}

theorem getU (R : Rep A a) (k : Nat) : a.sl[k]? = (A.sl[k]?).map Sl.u := by rw [← R.sl, List.getElem?_map]
theorem length (R : Rep A a) : a.sl.length = A.sl.length := by rw [← R.sl, List.length_map]

theorem use (R : Rep A a) {k : Nat} {s : Sl} (hs : A.sl[k]? = some s) : 0 ≤ s.use ∧ s.use ≤ 2147483648 := by
  by_cases h : (k : Int) < A.fresh
  · have := R.old k s hs h; omega
  · have := R.new k s hs (by omega); omega

theorem freed (R : Rep A a) : -1 ≤ A.freed ∧ A.freed < A.sl.length := by
  have c := R.chain
  cases hf : a.fl with
  | nil => rw [hf] at c; have : A.freed = -1 := c; omega
  | cons k r =>
    rw [hf] at c
    obtain ⟨e, s, hs, -⟩ := c
    have := (List.getElem?_eq_some_iff.1 hs).1
    omega

theorem ok (R : Rep A a) : A.Ok where
  len := R.len
  fd0 := R.freed.1
  fd1 := R.freed.2
  fr0 := R.fr0
  fr1 := R.fr1
  use := fun s hs => by
    obtain ⟨k, hk⟩ := List.getElem?_of_mem hs
    have := R.use hk; omega
  next := R.next
  tk := by rw [R.tk]; have := List.countP_le_length (p := fun s : Sl => s.taken) (l := A.sl); have := R.len; omega
  lo := by rw [R.lo]; have := List.countP_le_length (p := fun s : Sl => !s.taken && s.use == 2147483648) (l := A.sl); have := R.len; omega

theorem empty {n : Nat} (h : n ≤ 4096) : Rep (Ar.empty n) (AA.empty n) where
  sl := by simp [Ar.empty, AA.empty, Sl.u]
  len := by simpa [Ar.empty] using h
  chain := rfl
  nodup := List.nodup_nil
  fr0 := Int.le_refl _
  fr1 := by simp [Ar.empty]
  old := fun k s _ hk => by simp only [Ar.empty] at hk; omega
  new := fun k s hs _ => by
    simp only [Ar.empty, List.getElem?_replicate] at hs
    split at hs
    · obtain rfl := Option.some.inj hs; exact ⟨rfl, rfl⟩
    · simp at hs
  inl := fun k hk => by simp [AA.empty] at hk
  next := fun s hs => by
    simp only [Ar.empty, List.mem_replicate] at hs
    obtain ⟨h0, rfl⟩ := hs
    simp [Ar.empty]; omega
  tk := by simp [Ar.empty, List.countP_replicate]
  lo := by simp [Ar.empty, List.countP_replicate]

/-- The first slot that was not used. -/
theorem fresh (R : Rep A a) : a.sl.findIdx (·.use == 0) = A.fresh.toNat := by
  have h0 := R.fr0
  have h1 := R.fr1
  have hlt : ∀ j, j < A.fresh.toNat → ∃ s, A.sl[j]? = some s ∧ a.sl[j]? = some s.u ∧ s.use ≠ 0 := fun j hj => by
    obtain ⟨s, hs⟩ : ∃ s, A.sl[j]? = some s := ⟨_, List.getElem?_eq_getElem (by omega)⟩
    exact ⟨s, hs, by rw [R.getU, hs]; rfl, by have := (R.old j s hs (by omega)).1; omega⟩
  by_cases hm : A.fresh.toNat < A.sl.length
  · obtain ⟨s, hs⟩ : ∃ s, A.sl[A.fresh.toNat]? = some s := ⟨_, List.getElem?_eq_getElem hm⟩
    have hu := R.new _ s hs (by omega)
    have hl : A.fresh.toNat < a.sl.length := by rw [R.length]; exact hm
    refine (List.findIdx_eq hl).2 ⟨?_, ?_⟩
    · have : a.sl[A.fresh.toNat]? = some s.u := by rw [R.getU, hs]; rfl
      rw [List.getElem?_eq_getElem hl] at this
      rw [Option.some.inj this]; simpa [Sl.u] using hu.1
    · intro j hj
      obtain ⟨t, ht, hat, hne⟩ := hlt j hj
      rw [List.getElem?_eq_getElem (by omega)] at hat
      rw [Option.some.inj hat]; simpa [Sl.u] using hne
  · have e : A.fresh.toNat = a.sl.length := by rw [R.length]; omega
    rw [e]
    refine List.findIdx_eq_length.2 ?_
    intro x hx
    obtain ⟨j, hj⟩ := List.getElem?_of_mem hx
    have hjl := (List.getElem?_eq_some_iff.1 hj).1
    obtain ⟨t, ht, hat, hne⟩ := hlt j (by omega)
    rw [hj] at hat
    rw [Option.some.inj hat]; simpa [Sl.u] using hne

theorem find (R : Rep A a) (h : Int) : a.find h = (A.find h).map fun p => (p.1, p.2.u) := by
  unfold AA.find Ar.find
  split
  · rfl
  · rw [R.getU]
    cases A.sl[(h % 4096).toNat]? with
    | none => rfl
    | some s =>
      simp only [Option.map_some, Sl.u]
      split <;> simp

theorem get (R : Rep A a) (h : Int) : A.get h = a.get h := by
  unfold AA.get Ar.get
  rw [R.find]
  cases A.find h with
  | none => rfl
  | some p => rfl

theorem mem_set {l : List Sl} {k : Nat} {t s : Sl} (h : s ∈ l.set k t) : s ∈ l ∨ s = t := List.mem_or_eq_of_mem_set h

/-- A slot is filled. -/
theorem fill (R : Rep A a) {k : Nat} {s : Sl} (hs : A.sl[k]? = some s) (ht : s.taken = false) (hw : s.use ≠ 2147483648) (v : Int) {fd fr : Int} {r : List Nat}
    (hr : r.Nodup) (hrm : ∀ j ∈ r, j ∈ a.fl ∧ j ≠ k) (hc : Chain A.sl fd r) (hfr : fr = A.fresh ∧ (k : Int) < A.fresh ∨ (fr = A.fresh + 1 ∧ (k : Int) = A.fresh)) :
    Rep { A.fill k s v with freed := fd, fresh := fr } (a.fill k s.u v r) where
  sl := by simp only [Ar.fill, AA.fill, List.map_set, R.sl]; rfl
  len := by simpa [Ar.fill] using R.len
  chain := hc.set _ (fun h => (hrm k h).2 rfl)
  nodup := hr
  fr0 := by have := R.fr0; simp only; omega
  fr1 := by have := R.fr1; have := (List.getElem?_eq_some_iff.1 hs).1; simp only [Ar.fill, List.length_set]; omega
  old := fun j t hj hlt => by
    simp only [Ar.fill] at hj hlt
    have hu := R.use hs
    rw [List.getElem?_set] at hj
    split at hj
    · split at hj
      · obtain rfl := Option.some.inj hj; simp only; omega
      · simp at hj
    · exact R.old j t hj (by omega)
  new := fun j t hj hlt => by
    simp only [Ar.fill] at hj hlt
    rw [List.getElem?_set_ne (by omega)] at hj
    exact R.new j t hj (by omega)
  inl := fun j hj => by
    obtain ⟨hm, hne⟩ := hrm j hj
    obtain ⟨t, h1, h2, h3, h4⟩ := R.inl j hm
    exact ⟨t, by simp only [Ar.fill]; rw [List.getElem?_set_ne (Ne.symm hne)]; exact h1, h2, by simp only; omega, h4⟩
  next := fun t h => by
    simp only [Ar.fill, List.length_set] at h ⊢
    rcases mem_set h with h | rfl
    · exact R.next t h
    · simp only; omega
  tk := by
    have hl := (List.getElem?_eq_some_iff.1 hs)
    simp only [Ar.fill]
    rw [List.countP_set hl.1, R.tk, hl.2, ht]
    simp
  lo := by
    have hl := (List.getElem?_eq_some_iff.1 hs)
    simp only [Ar.fill]
    rw [List.countP_set hl.1, R.lo, hl.2, ht]
    simp [hw]

theorem put (R : Rep A a) (v : Int) {a' : AA} {h e : Int} (hp : a.put v = (a', h, e)) : ∃ A', A.put v = (A', h, e) ∧ Rep A' a' := by
  unfold AA.put AA.pick at hp
  unfold Ar.put
  cases hf : a.fl with
  | cons k r =>
    have c := R.chain
    rw [hf] at c hp
    obtain ⟨hk, s, hs, hc⟩ := c
    obtain ⟨s', hs', ht, hlt, hw⟩ := R.inl k (by simp [hf])
    rw [hs] at hs'
    obtain rfl := Option.some.inj hs'
    have e1 : a.sl[k]? = some s.u := by rw [R.getU, hs]; rfl
    simp only [e1, Option.map_some, Prod.mk.injEq] at hp
    obtain ⟨rfl, rfl, rfl⟩ := hp
    rw [if_pos (by omega), show A.freed.toNat = k from by omega, hs]
    have nd := R.nodup
    rw [hf, List.nodup_cons] at nd
    exact ⟨_, by rw [hk]; rfl, R.fill hs ht hw v nd.2 (fun j hj => ⟨by simp [hf, hj], fun e => nd.1 (e ▸ hj)⟩) hc (.inl ⟨rfl, hlt⟩)⟩
  | nil =>
    have c := R.chain
    rw [hf] at c hp
    have hq : A.freed = -1 := c
    rw [if_neg (by omega)]
    simp only [R.fresh, R.getU] at hp
    cases hs : A.sl[A.fresh.toNat]? with
    | none =>
      rw [hs] at hp
      simp only [Option.map_none, Prod.mk.injEq] at hp
      obtain ⟨rfl, rfl, rfl⟩ := hp
      exact ⟨_, rfl, R⟩
    | some s =>
      rw [hs] at hp
      simp only [Option.map_some, Prod.mk.injEq] at hp
      obtain ⟨rfl, rfl, rfl⟩ := hp
      have h0 := R.fr0
      have hn := R.new _ s hs (by omega)
      refine ⟨_, ?_, R.fill hs hn.2 (by omega) v List.nodup_nil (fun j hj => by simp at hj) c (.inr ⟨rfl, by omega⟩)⟩
      simp only [Sl.u]
      congr 2
      omega

theorem free (R : Rep A a) (h : Int) {a' : AA} {e : Int} (hp : a.free h = (a', e)) : ∃ A', A.free h = (A', e) ∧ Rep A' a' := by
  unfold AA.free at hp
  unfold Ar.free
  rw [R.find] at hp
  cases hf : A.find h with
  | none =>
    rw [hf] at hp
    simp only [Option.map_none, Prod.mk.injEq] at hp
    obtain ⟨rfl, rfl⟩ := hp
    exact ⟨A, rfl, R⟩
  | some p =>
    obtain ⟨k, s⟩ := p
    rw [hf] at hp
    simp only [Option.map_some, Prod.mk.injEq] at hp
    obtain ⟨rfl, rfl⟩ := hp
    obtain ⟨-, -, hs, ht, -⟩ := Ar.find_spec hf
    have hl := (List.getElem?_eq_some_iff.1 hs)
    have hu := R.use hs
    have hkf : (k : Int) < A.fresh := by
      rcases Int.lt_or_le (k : Int) A.fresh with q | q
      · exact q
      · have := (R.new k s hs q).2; rw [ht] at this; simp at this
    have hkn : k ∉ a.fl := fun hm => by
      obtain ⟨t, h1, h2, -⟩ := R.inl k hm
      rw [hs] at h1; obtain rfl := Option.some.inj h1
      rw [ht] at h2; simp at h2
    have hfr := R.freed
    have hol := R.old k s hs hkf
    simp only
    by_cases hw : s.use = 2147483648
    · rw [if_pos hw]
      refine ⟨_, rfl, ?_⟩
      simp only [Sl.u, hw, if_true]
      exact {
        sl := by simp only [List.map_set, R.sl]; simp [Sl.u]
        len := by simpa using R.len
        chain := R.chain.set _ hkn
        nodup := R.nodup
        fr0 := R.fr0
        fr1 := by simpa using R.fr1
        old := fun j t hj hlt => by
          simp only at hj hlt
          rw [List.getElem?_set] at hj
          split at hj
          · split at hj
            · obtain rfl := Option.some.inj hj; simp only; omega
            · simp at hj
          · exact R.old j t hj hlt
        new := fun j t hj hlt => by
          simp only at hj hlt
          rw [List.getElem?_set_ne (by omega)] at hj
          exact R.new j t hj hlt
        inl := fun j hj => by
          obtain ⟨t, h1, h2, h3, h4⟩ := R.inl j hj
          exact ⟨t, by simp only; rw [List.getElem?_set_ne (fun (e : k = j) => hkn (by rw [e]; exact hj))]; exact h1, h2, h3, h4⟩
        next := fun t ht' => by
          simp only [List.length_set] at ht' ⊢
          rcases mem_set ht' with q | rfl
          · exact R.next t q
          · exact R.next s (List.mem_of_getElem? hs)
        tk := by
          simp only
          rw [List.countP_set hl.1, R.tk, hl.2, ht]
          have : 0 < A.sl.countP (·.taken) := List.countP_pos_iff.2 ⟨s, List.mem_of_getElem? hs, ht⟩
          simp; omega
        lo := by
          simp only
          rw [List.countP_set hl.1, R.lo, hl.2, ht]
          simp [hw] }
    · rw [if_neg hw]
      refine ⟨_, rfl, ?_⟩
      simp only [Sl.u, hw, if_false]
      exact {
        sl := by simp only [List.map_set, R.sl]; simp [Sl.u]
        len := by simpa using R.len
        chain := ⟨rfl, _, set_at hs _, R.chain.set _ hkn⟩
        nodup := List.nodup_cons.2 ⟨hkn, R.nodup⟩
        fr0 := R.fr0
        fr1 := by simpa using R.fr1
        old := fun j t hj hlt => by
          simp only at hj hlt
          rw [List.getElem?_set] at hj
          split at hj
          · split at hj
            · obtain rfl := Option.some.inj hj; simp only; omega
            · simp at hj
          · exact R.old j t hj hlt
        new := fun j t hj hlt => by
          simp only at hj hlt
          rw [List.getElem?_set_ne (by omega)] at hj
          exact R.new j t hj hlt
        inl := fun j hj => by
          rcases List.mem_cons.1 hj with rfl | hj
          · exact ⟨_, set_at hs _, rfl, hkf, hw⟩
          · obtain ⟨t, h1, h2, h3, h4⟩ := R.inl j hj
            exact ⟨t, by simp only; rw [List.getElem?_set_ne (fun (e : k = j) => hkn (by rw [e]; exact hj))]; exact h1, h2, h3, h4⟩
        next := fun t ht' => by
          simp only [List.length_set] at ht' ⊢
          rcases mem_set ht' with q | rfl
          · exact R.next t q
          · simp only; omega
        tk := by
          simp only
          rw [List.countP_set hl.1, R.tk, hl.2, ht]
          have : 0 < A.sl.countP (·.taken) := List.countP_pos_iff.2 ⟨s, List.mem_of_getElem? hs, ht⟩
          simp; omega
        lo := by
          simp only
          rw [List.countP_set hl.1, R.lo, hl.2, ht]
          simp [hw] }

theorem tkLen (R : Rep A a) : A.taken = a.len := by
  rw [R.tk, AA.len, ← R.sl, List.countP_map]; rfl

theorem count3 (l : List Sl) : (l.length : Int) - l.countP (fun s => s.taken) - l.countP (fun s => !s.taken && s.use == 2147483648) = ((l.map Sl.u).countP fun s => !s.taken && s.use != 2147483648) := by
  induction l with
  | nil => rfl
  | cons s l ih =>
    rw [List.map_cons, List.countP_cons, List.countP_cons, List.countP_cons, List.length_cons]
    generalize List.countP (fun s => !s.taken && s.use != 2147483648) (l.map Sl.u) = c at ih ⊢
    generalize List.countP (fun s => !s.taken && s.use == 2147483648) l = b at ih ⊢
    generalize List.countP (fun s => s.taken) l = a at ih ⊢
    simp only [Sl.u, bne]
    by_cases ht : s.taken = true <;> by_cases h : (s.use == 2147483648) = true <;> simp [ht, h] <;> omega
theorem roomEq (R : Rep A a) : A.room = a.room := by
  rw [Ar.room, R.tk, R.lo, AA.room, ← R.sl]; exact count3 A.sl
end Rep
end Go.Proofs.YtjlcchjcppkbjaaDoor
/- The abstract arena as the document reckons it: plain. -/
namespace Go.Proofs.YtjlcchjcppkbjaaDoor
/-- What is true of an abstract arena that the program's stands for. -/
structure AOk (a : AA) : Prop where
  len : a.sl.length ≤ 4096
  use : ∀ (k : Nat) (s : U), a.sl[k]? = some s → 0 ≤ s.use ∧ s.use ≤ 2147483648
  tk : ∀ (k : Nat) (s : U), a.sl[k]? = some s → s.taken = true → 1 ≤ s.use
  fl : ∀ k ∈ a.fl, ∃ s, a.sl[k]? = some s ∧ s.taken = false ∧ 1 ≤ s.use ∧ s.use ≠ 2147483648
  nodup : a.fl.Nodup
theorem Rep.aok {A : Ar} {a : AA} (R : Rep A a) : AOk a where
  len := by rw [R.length]; exact R.len
  use := fun k s hs => by
    rw [R.getU] at hs
    obtain ⟨t, ht, rfl⟩ := Option.map_eq_some_iff.1 hs
    exact R.use ht
  tk := fun k s hs h => by
    rw [R.getU] at hs
    obtain ⟨t, ht, rfl⟩ := Option.map_eq_some_iff.1 hs
    by_cases hk : (k : Int) < A.fresh
    · exact (R.old k t ht hk).1
    · have h2 := (R.new k t ht (by omega)).2
      have h3 : t.taken = true := h
      rw [h2] at h3
      cases h3
  fl := fun k hk => by
    obtain ⟨s, hs, h1, h2, h3⟩ := R.inl k hk
    exact ⟨s.u, by rw [R.getU, hs]; rfl, h1, (R.old k s hs h2).1, h3⟩
  nodup := R.nodup
/-- A place that the document's search stops at. -/
def hit (a : AA) (h : Int) (k : Nat) : Prop := ∃ s, a.sl[k]? = some s ∧ s.taken = true ∧ 4096 * s.use + k = h
theorem hit_find {a : AA} (ok : AOk a) {h : Int} {k : Nat} {s : U} (hs : a.sl[k]? = some s) (ht : s.taken = true) (hh : 4096 * s.use + k = h) : a.find h = some (k, s) := by
  have h1 := ok.tk k s hs ht
  have h2 := (List.getElem?_eq_some_iff.1 hs).1
  have h3 := ok.len
  have e : (h % 4096).toNat = k := by omega
  unfold AA.find
  rw [if_neg (by omega), e, hs]
  simp only []
  rw [if_pos ⟨ht, by omega⟩]
theorem find_hit {a : AA} {h : Int} {k : Nat} {s : U} (hf : a.find h = some (k, s)) : a.sl[k]? = some s ∧ s.taken = true ∧ 4096 * s.use + k = h := by
  unfold AA.find at hf
  split at hf
  · cases hf
  · split at hf
    · rename_i h1 t ht
      split at hf
      · rename_i h2
        injection hf with hf
        injection hf with e1 e2
        subst e1 e2
        exact ⟨ht, h2.1, by omega⟩
      · cases hf
    · cases hf
theorem find_nohit {a : AA} (ok : AOk a) {h : Int} (hf : a.find h = none) (k : Nat) (s : U) (hs : a.sl[k]? = some s) : ¬ (s.taken = true ∧ 4096 * s.use + k = h) := fun ⟨h1, h2⟩ => by
  rw [hit_find ok hs h1 h2] at hf
  cases hf
/-- The search of the document: the place, or -1. -/
def AA.at_ (a : AA) (h : Int) : Int := match a.find h with | some (k, _) => (k : Int) | none => -1
theorem at_hit {a : AA} (ok : AOk a) {h : Int} {k : Nat} {s : U} (hs : a.sl[k]? = some s) (ht : s.taken = true) (hh : 4096 * s.use + k = h) : a.at_ h = (k : Int) := by
  unfold AA.at_
  rw [hit_find ok hs ht hh]
theorem at_miss {a : AA} {h : Int} (hn : ∀ (k : Nat) (s : U), a.sl[k]? = some s → ¬ (s.taken = true ∧ 4096 * s.use + k = h)) : a.at_ h = -1 := by
  unfold AA.at_
  cases hf : a.find h with
  | none => rfl
  | some p =>
    obtain ⟨k, s⟩ := p
    obtain ⟨h1, h2, h3⟩ := find_hit hf
    exact absurd ⟨h2, h3⟩ (hn k s h1)
end Go.Proofs.YtjlcchjcppkbjaaDoor
/- A map with keys of type int, of whatever elements: what it holds, as a function. -/
namespace Go.Proofs.YtjlcchjcppkbjaaDoor
open Go.RowKit
open Go.Maps (Keyed)

/-- How elements read. -/
structure ECode {β : Type} (R : Value → Option (DataW Unit × List MemPlace)) (enc : β → Value) (dat : β → DataW Unit) : Prop where
  at_ : ∀ x, R (enc x) = some (dat x, [])
  inv : ∀ v x ps, R v = some (dat x, ps) → v = enc x
  shape : ∀ v y, R v = some y → ∃ c, v = enc c

def Wf (r : Int) : Prop := (Lit.int .i64 r).wf = true
theorem Wf.of {r : Int} (h0 : -9223372036854775808 ≤ r) (h1 : r ≤ 9223372036854775807) : Wf r := by
  unfold Wf
  exact WalkArith.wf_i64 ⟨h0, h1⟩
variable {β : Type} {P : Program} {K : TypeId} {R : Value → Option (DataW Unit × List MemPlace)} {enc : β → Value} {dat : β → DataW Unit} {w w' : World} {b n : Nat} {g : Int → Option β}

/-- Block b is a map of at most n entries that holds g. -/
def MapOf (P : Program) (K : TypeId) (R : Value → Option (DataW Unit × List MemPlace)) (dat : β → DataW Unit) (w : World) (b n : Nat) (g : Int → Option β) : Prop :=
  ∃ D : DataW Unit, w.ownsMap P K R b n D ∧ ∀ r, Wf r → Maps.has D (.int .i64 r) = (g r).isSome ∧ ∀ x, g r = some x → ∀ z, D.atKey (.int .i64 r) z = dat x
theorem MapOf.made (w : World) (P : Program) (K : TypeId) (R : Value → Option (DataW Unit × List MemPlace)) (dat : β → DataW Unit) : MapOf P K R dat (w.alloc (.map #[] 0)) w.heap.size 0 (fun _ => none) :=
  ⟨_, World.ownsMap_made w P K R, fun r _ => ⟨rfl, fun x h => by cases h⟩⟩
theorem MapOf.lt (h : MapOf P K R dat w b n g) : b < w.heap.size := let ⟨_, h, _⟩ := h; h.lt
theorem MapOf.kept {S : Nat → Prop} (h : MapOf P K R dat w b n g) (k : Kept S w w') (hS : ¬ S b) : MapOf P K R dat w' b n g := by
  have hlt := h.lt
  obtain ⟨D, ⟨es, clock, hb, r⟩, h2⟩ := h
  exact ⟨D, ⟨es, clock, by rw [k.block b hlt hS]; exact hb, r⟩, h2⟩
theorem MapOf.same (h : MapOf P K R dat w b n g) (k : Kept (fun _ => False) w w') : MapOf P K R dat w' b n g := h.kept k (fun h => h)
theorem MapOf.congr {g' : Int → Option β} (h : MapOf P K R dat w b n g) (hg : ∀ r, Wf r → g' r = g r) : MapOf P K R dat w b n g' := by
  obtain ⟨D, h1, h2⟩ := h
  exact ⟨D, h1, fun r hr => by rw [hg r hr]; exact h2 r hr⟩
theorem MapOf.mono (h : MapOf P K R dat w b n g) {n' : Nat} (hn : n ≤ n') : MapOf P K R dat w b n' g := by
  obtain ⟨D, h1, h2⟩ := h
  exact ⟨D, h1.mono hn, h2⟩
theorem kept_turned (h : w.mapTurned w' b) : Kept (fun i => i = b) w w' := by
  have hg := h.grown
  exact ⟨hg.os, hg.tape, hg.output, hg.size, fun k hk hn => hg.block k hk (fun e => hn (by injection e))⟩
theorem kept_grown {row : Option Nat} (hg : w.grownBy w' row) : Kept (fun i => row = some i) w w' :=
  ⟨hg.os, hg.tape, hg.output, hg.size, fun k hk hn => hg.block k hk (fun e => hn e.symm)⟩
theorem key_lit {P : Program} {K : TypeId} (hk : P.underlying K = some (.int .i64)) {r : Int} (hr : Wf r) : keyOf P K (.int .i64 r) = some (.int .i64 r) := Maps.keyOf_int_mk hk hr
theorem lit_ne {r s : Int} (h : r ≠ s) : (Lit.int .i64 r) ≠ Lit.int .i64 s := fun e => h (by injection e)

section
variable {ops : Array Oper} {rest : List Oper} {o : Oper} {a : Act} {Q : Exit → Act → World → Prop}
theorem wpList_look_some (C : ECode R enc dat) (hg : o.guard = none) (m x : Operand) (t : TypeId) (hop : o.op = Op.lookup t m x true) (e : TypeId) (hk : P.underlying K = some (.int .i64)) (ht : P.underlying t = some (.map K e)) (z : β)
    (hz : (zeroValue e).run P w = .ok (enc z) w) (b n : Nat) (g : Int → Option β) (hm : a.eval m = .map (some b)) (h : MapOf P K R dat w b n g) (r : Int) (hx : a.eval x = .int .i64 r) (hr : Wf r) (y : β) (hy : g r = some y)
    (hK : wpList P ops Q rest (a.put o.dst (.tuple #[enc y, .bool true])) w) : wpList P ops Q (o :: rest) a w := by
  obtain ⟨D, h1, h2⟩ := h
  obtain ⟨h3, h4⟩ := h2 r hr
  refine wpList_lookup_own_ok w hg m x t hop K e (Maps.int_keyed hk) ht R hz (dat z) [] (C.at_ z) b n D hm h1 (.int .i64 r) (.int .i64 r) hx (key_lit hk hr) fun v ps hv => ?_
  rw [h4 y hy] at hv
  rw [C.inv v y ps hv, h3, hy]
  exact hK
theorem wpList_look_none (C : ECode R enc dat) (hg : o.guard = none) (m x : Operand) (t : TypeId) (hop : o.op = Op.lookup t m x true) (e : TypeId) (hk : P.underlying K = some (.int .i64)) (ht : P.underlying t = some (.map K e)) (z : β)
    (hz : (zeroValue e).run P w = .ok (enc z) w) (b n : Nat) (g : Int → Option β) (hm : a.eval m = .map (some b)) (h : MapOf P K R dat w b n g) (r : Int) (hx : a.eval x = .int .i64 r) (hr : Wf r) (hy : g r = none)
    (hK : wpList P ops Q rest (a.put o.dst (.tuple #[enc z, .bool false])) w) : wpList P ops Q (o :: rest) a w := by
  obtain ⟨D, h1, h2⟩ := h
  obtain ⟨h3, h4⟩ := h2 r hr
  rw [hy] at h3
  refine wpList_lookup_own_ok w hg m x t hop K e (Maps.int_keyed hk) ht R hz (dat z) [] (C.at_ z) b n D hm h1 (.int .i64 r) (.int .i64 r) hx (key_lit hk hr) fun v ps hv => ?_
  rw [Maps.atKey_of_not_has h3] at hv
  rw [C.inv v z ps hv, h3]
  exact hK
theorem wpList_store_of (C : ECode R enc dat) (hg : o.guard = none) (m x v : Operand) (t : TypeId) (hop : o.op = Op.mapUpdate t m x v) (e : TypeId) (hk : P.underlying K = some (.int .i64)) (ht : P.underlying t = some (.map K e))
    (b n : Nat) (g : Int → Option β) (hm : a.eval m = .map (some b)) (h : MapOf P K R dat w b n g) (hn : n < maxLen) (r : Int) (hx : a.eval x = .int .i64 r) (hr : Wf r) (y : β) (hv : a.eval v = enc y)
    (hK : ∀ w', MapOf P K R dat w' b (n + 1) (fun s => if s = r then some y else g s) → Kept (fun i => i = b) w w' → wpList P ops Q rest (a.put o.dst undef) w') : wpList P ops Q (o :: rest) a w := by
  obtain ⟨D, h1, h2⟩ := h
  refine wpList_mapUpdate_in w hg m x v t hop K e (Maps.int_keyed hk) ht R b n D hm h1 hn (.int .i64 r) (enc y) (.int .i64 r) hx hv (key_lit hk hr) (dat y) [] (C.at_ y) fun w' h3 h4 => hK w' ⟨_, h3, fun s hs => ?_⟩ (kept_turned h4)
  dsimp only
  by_cases e : s = r
  · subst e
    rw [if_pos rfl]
    exact ⟨Maps.has_put_same h1.isMap (show WideAt.IsKeyLit (Lit.int .i64 s) from trivial) _, fun x hx z => by injection hx with hx; subst hx; exact Maps.atKey_put_same h1.isMap (show WideAt.IsKeyLit (Lit.int .i64 s) from trivial) _ _⟩
  · rw [if_neg e, Maps.has_put_other (lit_ne e)]
    exact ⟨(h2 s hs).1, fun x hx z => by rw [Maps.atKey_put_other (lit_ne e)]; exact (h2 s hs).2 x hx z⟩
theorem wpList_delete_of (hg : o.guard = none) (m x : Operand) (t : TypeId) (hop : o.op = Op.call { callee := Callee.builtin Builtin.delete, args := #[m, x], argTypes := #[t, K] }) (e : TypeId) (hk : P.underlying K = some (.int .i64)) (ht : P.underlying t = some (.map K e))
    (b n : Nat) (g : Int → Option β) (hm : a.eval m = .map (some b)) (h : MapOf P K R dat w b n g) (r : Int) (hx : a.eval x = .int .i64 r) (hr : Wf r)
    (hK : ∀ w', MapOf P K R dat w' b n (fun s => if s = r then none else g s) → Kept (fun i => i = b) w w' → wpList P ops Q rest (a.put o.dst (.tuple #[])) w') : wpList P ops Q (o :: rest) a w := by
  obtain ⟨D, h1, h2⟩ := h
  refine wpList_delete_own w hg m x t K hop e (Maps.int_keyed hk) ht R b n D hm h1 (.int .i64 r) (.int .i64 r) hx (key_lit hk hr) fun w' h3 h4 => hK w' ⟨_, h3, fun s hs => ?_⟩ (kept_turned h4)
  dsimp only
  by_cases e : s = r
  · subst e
    rw [if_pos rfl]
    exact ⟨Maps.has_del_same, fun x hx => by cases hx⟩
  · rw [if_neg e, Maps.has_del_other (lit_ne e)]
    exact ⟨(h2 s hs).1, fun x hx z => by rw [Maps.atKey_del_other (lit_ne e)]; exact (h2 s hs).2 x hx z⟩

/-- A range over the map is under way; the keys ks have come. -/
def RangeOf (P : Program) (K : TypeId) (R : Value → Option (DataW Unit × List MemPlace)) (dat : β → DataW Unit) (w : World) (b r n : Nat) (g : Int → Option β) (ks : List Int) (cnt : Nat) : Prop :=
  ∃ (D : DataW Unit) (left : Lit → Bool), w.ranges P K R b r n D left cnt ∧ (∀ s, Wf s → Maps.has D (.int .i64 s) = (g s).isSome ∧ ∀ x, g s = some x → ∀ z, D.atKey (.int .i64 s) z = dat x) ∧
    (∀ s, Wf s → left (.int .i64 s) = ((g s).isSome && !ks.contains s)) ∧ ks.Nodup ∧ (∀ s ∈ ks, Wf s ∧ (g s).isSome = true)
theorem RangeOf.map {r : Nat} {ks : List Int} {cnt : Nat} (h : RangeOf P K R dat w b r n g ks cnt) : MapOf P K R dat w b n g := let ⟨D, _, h1, h2, _⟩ := h; ⟨D, h1.owns, h2⟩
theorem RangeOf.left {r : Nat} {ks : List Int} {cnt : Nat} (h : RangeOf P K R dat w b r n g ks cnt) : w.rangeLeft b r = cnt := let ⟨_, _, h1, _⟩ := h; h1.left_eq
theorem RangeOf.lt {r : Nat} {ks : List Int} {cnt : Nat} (h : RangeOf P K R dat w b r n g ks cnt) : r < w.heap.size ∧ b < w.heap.size ∧ r ≠ b := let ⟨_, _, h1, _⟩ := h; ⟨h1.lt, h1.owns.lt, h1.ne⟩
theorem RangeOf.kept {r : Nat} {ks : List Int} {cnt : Nat} {S : Nat → Prop} (h : RangeOf P K R dat w b r n g ks cnt) (k : Kept S w w') (hb : ¬ S b) (hr : ¬ S r) : RangeOf P K R dat w' b r n g ks cnt := by
  obtain ⟨l1, l2, _⟩ := h.lt
  obtain ⟨D, left, ⟨es, clock, since, seen, c0, q1, q2, q3, q4, q5, q6⟩, h2⟩ := h
  exact ⟨D, left, ⟨es, clock, since, seen, c0, by rw [k.block b l2 hb]; exact q1, q2, q3, q4, by rw [k.block r l1 hr]; exact q5, q6⟩, h2⟩
theorem wpList_range_of (hg : o.guard = none) (m : Operand) (t : TypeId) (hop : o.op = Op.range t m) (e : TypeId) (hk : P.underlying K = some (.int .i64)) (ht : P.underlying t = some (.map K e))
    (b n : Nat) (g : Int → Option β) (hm : a.eval m = .map (some b)) (h : MapOf P K R dat w b n g)
    (hK : ∀ w' cnt, RangeOf P K R dat w' b w.heap.size n g [] cnt → cnt ≤ n → Kept (fun _ => False) w w' → w'.heap.size = w.heap.size + 1 → wpList P ops Q rest (a.put o.dst (.pointer (some ⟨w.heap.size, 0, none⟩))) w') : wpList P ops Q (o :: rest) a w := by
  obtain ⟨D, h1, h2⟩ := h
  refine wpList_range_own w hg m t hop K e (Maps.int_keyed hk) ht R b n D hm h1 fun w' h3 h4 h5 => hK w' _ ⟨D, _, h3, h2, fun s hs => by rw [(h2 s hs).1]; simp, by simp, by simp⟩ h1.size_le ((kept_grown h4).mono fun _ _ h => by cases h) h5
theorem sameKey_int (s r : Int) : (Lit.int .i64 s).sameKey (.int .i64 r) = decide (s = r) := by
  by_cases h : s = r
  · subst h; simp [Lit.sameKey]
  · rw [Maps.sameKey_ne (lit_ne h)]; simp [h]
theorem wpList_next_of (C : ECode R enc dat) (hg : o.guard = none) (it : Operand) (hop : o.op = Op.next it false) (hk : P.underlying K = some (.int .i64)) (b r n : Nat) (g : Int → Option β) (ks : List Int) (cnt : Nat)
    (hit : a.eval it = .pointer (some ⟨r, 0, none⟩)) (h : RangeOf P K R dat w b r n g ks cnt)
    (hDone : cnt = 0 → (∀ s, Wf s → (g s).isSome = true → s ∈ ks) → wpList P ops Q rest (a.put o.dst (.tuple #[.bool false])) w)
    (hMore : ∀ (s : Int) (x : β) (w' : World) (cnt' : Nat), Wf s → s ∉ ks → g s = some x → RangeOf P K R dat w' b r n g (ks ++ [s]) cnt' → cnt' < cnt → Kept (fun i => i = r) w w' → w'.heap.size = w.heap.size →
      (Instr.entry (.pointer (some ⟨r, 0, none⟩))).run P w' = .ok (.tuple #[.int .i64 s, enc x]) w' → wpList P ops Q rest (a.put o.dst (.tuple #[.bool true, .int .i64 s, enc x])) w') : wpList P ops Q (o :: rest) a w := by
  obtain ⟨D, left, h1, h2, h3, h4, h5⟩ := h
  refine wpList_next_ranges w hg it hop K (Maps.int_keyed hk) R (Value.int .i64) enc (fun key kl hkey => by obtain ⟨x, rfl, _⟩ := Maps.keyOf_int_inv hk hkey; exact ⟨x, rfl⟩) (fun v y hv => C.shape v y hv) b r n D left cnt hit h1
    (fun h0 hl => hDone h0 fun s hs hg => ?_) (fun s c kl y w' cnt' hkey hlk hv hat hrg hlt hgr hsz hen => ?_)
  · have := h3 s hs
    rw [hl, hg] at this
    simpa using this.symm
  · obtain ⟨s', es, rfl, hws⟩ := Maps.keyOf_int_inv hk hkey
    cases es
    have h6 := h3 s hws
    rw [hlk] at h6
    have h7 : (g s).isSome = true ∧ s ∉ ks := by
      have := h6.symm
      simp only [Bool.and_eq_true, Bool.not_eq_true', List.contains_eq_mem, decide_eq_false_iff_not] at this
      exact this
    obtain ⟨x, hx⟩ := Option.isSome_iff_exists.1 h7.1
    have hd := (h2 s hws).2 x hx (dat x)
    rw [hat] at hd
    have hcx : enc c = enc x := C.inv _ x y.2 (by rw [hv, ← hd])
    rw [hcx] at hen ⊢
    refine hMore s x w' cnt' hws h7.2 hx ⟨D, _, hrg, h2, fun q hq => ?_, ?_, fun q hq => ?_⟩ hlt ((kept_grown hgr).mono fun i _ e => by injection e with e; exact e.symm) hsz hen
    · rw [h3 q hq, sameKey_int]
      by_cases e : q = s
      · subst e; simp
      · simp [e]
    · rw [List.nodup_append]
      exact ⟨h4, by simp, fun p hp q hq e => by simp at hq; subst hq e; exact h7.2 hp⟩
    · rcases List.mem_append.1 hq with hq | hq
      · exact h5 q hq
      · simp at hq; subst hq; exact ⟨hws, h7.1⟩
end
end Go.Proofs.YtjlcchjcppkbjaaDoor
/- A map with keys of an integer type whose entries are counted. -/
namespace Go.Proofs.YtjlcchjcppkbjaaDoor
open Go.RowKit
open Go.Maps (Keyed)
variable {β : Type} {P : Program} {K : TypeId} {R : Value → Option (DataW Unit × List MemPlace)} {enc : β → Value} {dat : β → DataW Unit} {w w' : World} {b n c : Nat} {g : Int → Option β}

/-- Block b is a map of c entries (at most n were ever laid) that holds g. -/
def MapN (P : Program) (K : TypeId) (R : Value → Option (DataW Unit × List MemPlace)) (dat : β → DataW Unit) (w : World) (b n c : Nat) (g : Int → Option β) : Prop :=
  ∃ D : DataW Unit, w.ownsMap P K R b n D ∧ Maps.size D = c ∧ ∀ r, Wf r → Maps.has D (.int .i64 r) = (g r).isSome ∧ ∀ x, g r = some x → ∀ z, D.atKey (.int .i64 r) z = dat x
theorem MapN.of (h : MapN P K R dat w b n c g) : MapOf P K R dat w b n g := let ⟨D, h1, _, h2⟩ := h; ⟨D, h1, h2⟩
theorem MapN.made (w : World) (P : Program) (K : TypeId) (R : Value → Option (DataW Unit × List MemPlace)) (dat : β → DataW Unit) : MapN P K R dat (w.alloc (.map #[] 0)) w.heap.size 0 0 (fun _ => none) :=
  ⟨_, World.ownsMap_made w P K R, rfl, fun r _ => ⟨rfl, fun x h => by cases h⟩⟩
theorem MapN.lt (h : MapN P K R dat w b n c g) : b < w.heap.size := h.of.lt
theorem MapN.kept {S : Nat → Prop} (h : MapN P K R dat w b n c g) (k : Kept S w w') (hS : ¬ S b) : MapN P K R dat w' b n c g := by
  have hlt := h.lt
  obtain ⟨D, ⟨es, clock, hb, r⟩, h2⟩ := h
  exact ⟨D, ⟨es, clock, by rw [k.block b hlt hS]; exact hb, r⟩, h2⟩
theorem MapN.congr {g' : Int → Option β} (h : MapN P K R dat w b n c g) (hg : ∀ r, Wf r → g' r = g r) : MapN P K R dat w b n c g' := by
  obtain ⟨D, h1, h3, h2⟩ := h
  exact ⟨D, h1, h3, fun r hr => by rw [hg r hr]; exact h2 r hr⟩
theorem MapN.mono (h : MapN P K R dat w b n c g) {n' : Nat} (hn : n ≤ n') : MapN P K R dat w b n' c g := by
  obtain ⟨D, h1, h2⟩ := h
  exact ⟨D, h1.mono hn, h2⟩
section
variable {ops : Array Oper} {rest : List Oper} {o : Oper} {a : Act} {Q : Exit → Act → World → Prop}
theorem wpList_storeN (C : ECode R enc dat) (hg : o.guard = none) (m x v : Operand) (t : TypeId) (hop : o.op = Op.mapUpdate t m x v) (e : TypeId) (hk : P.underlying K = some (.int .i64)) (ht : P.underlying t = some (.map K e))
    (b n c : Nat) (g : Int → Option β) (hm : a.eval m = .map (some b)) (h : MapN P K R dat w b n c g) (hn : n < maxLen) (r : Int) (hx : a.eval x = .int .i64 r) (hr : Wf r) (hnew : g r = none) (y : β) (hv : a.eval v = enc y)
    (hK : ∀ w', MapN P K R dat w' b (n + 1) (c + 1) (fun s => if s = r then some y else g s) → Kept (fun i => i = b) w w' → wpList P ops Q rest (a.put o.dst undef) w') : wpList P ops Q (o :: rest) a w := by
  obtain ⟨D, h1, h3, h2⟩ := h
  refine wpList_mapUpdate_in w hg m x v t hop K e (Maps.int_keyed hk) ht R b n D hm h1 hn (.int .i64 r) (enc y) (.int .i64 r) hx hv (key_lit hk hr) (dat y) [] (C.at_ y) fun w' h5 h4 => hK w' ⟨_, h5, ?_, fun s hs => ?_⟩ (kept_turned h4)
  · rw [Maps.size_put (h1.tidy (Maps.int_keyed hk)), (h2 r hr).1, hnew, h3]; rfl
  dsimp only
  by_cases e : s = r
  · subst e
    rw [if_pos rfl]
    exact ⟨Maps.has_put_same h1.isMap (show WideAt.IsKeyLit (Lit.int .i64 s) from trivial) _, fun x hx z => by injection hx with hx; subst hx; exact Maps.atKey_put_same h1.isMap (show WideAt.IsKeyLit (Lit.int .i64 s) from trivial) _ _⟩
  · rw [if_neg e, Maps.has_put_other (lit_ne e)]
    exact ⟨(h2 s hs).1, fun x hx z => by rw [Maps.atKey_put_other (lit_ne e)]; exact (h2 s hs).2 x hx z⟩
theorem wpList_deleteN (hg : o.guard = none) (m x : Operand) (t : TypeId) (hop : o.op = Op.call { callee := Callee.builtin Builtin.delete, args := #[m, x], argTypes := #[t, K] }) (e : TypeId) (hk : P.underlying K = some (.int .i64)) (ht : P.underlying t = some (.map K e))
    (b n c : Nat) (g : Int → Option β) (hm : a.eval m = .map (some b)) (h : MapN P K R dat w b n (c + 1) g) (r : Int) (hx : a.eval x = .int .i64 r) (hr : Wf r) (hold : (g r).isSome = true)
    (hK : ∀ w', MapN P K R dat w' b n c (fun s => if s = r then none else g s) → Kept (fun i => i = b) w w' → wpList P ops Q rest (a.put o.dst (.tuple #[])) w') : wpList P ops Q (o :: rest) a w := by
  obtain ⟨D, h1, h3, h2⟩ := h
  refine wpList_delete_own w hg m x t K hop e (Maps.int_keyed hk) ht R b n D hm h1 (.int .i64 r) (.int .i64 r) hx (key_lit hk hr) fun w' h5 h4 => hK w' ⟨_, h5, ?_, fun s hs => ?_⟩ (kept_turned h4)
  · have := Maps.size_del (D := D) (k := .int .i64 r) (h1.tidy (Maps.int_keyed hk))
    rw [(h2 r hr).1, hold] at this
    simp only [if_true] at this
    omega
  dsimp only
  by_cases e : s = r
  · subst e
    rw [if_pos rfl]
    exact ⟨Maps.has_del_same, fun x hx => by cases hx⟩
  · rw [if_neg e, Maps.has_del_other (lit_ne e)]
    exact ⟨(h2 s hs).1, fun x hx z => by rw [Maps.atKey_del_other (lit_ne e)]; exact (h2 s hs).2 x hx z⟩
theorem wpList_lenN (hg : o.guard = none) (m : Operand) (t : TypeId) (hop : o.op = Op.call { callee := Callee.builtin Builtin.len, args := #[m], argTypes := #[t] }) (e : TypeId) (ht : P.underlying t = some (.map K e))
    (b n c : Nat) (g : Int → Option β) (hm : a.eval m = .map (some b)) (h : MapN P K R dat w b n c g) (hK : wpList P ops Q rest (a.put o.dst (.int .i64 c)) w) : wpList P ops Q (o :: rest) a w := by
  obtain ⟨D, h1, h3, h2⟩ := h
  exact wpList_len_own w hg m t hop K e ht R b n D hm h1 (by rw [h3]; exact hK)
end
end Go.Proofs.YtjlcchjcppkbjaaDoor
/- append of one element, just built, as a step of a region that draws, or of a plain one. -/
namespace Go.Proofs.YtjlcchjcppkbjaaDoor
open Go.RowKit
variable {P : Program}
theorem step_one {t e size bytes : Nat} {ops : Array Oper} {o : Oper} {a : Act} {w : World} {K : Act → World → Prop} {Q : Exit → Act → World → Prop} {R : Prop} (hg : o.guard = none) (s x : Operand)
    (hop : o.op = Op.call { callee := Callee.builtin Builtin.append, args := #[s, x], argTypes := #[t, t] }) (E : ElemOk P t e size bytes) (base : Nat) (v : Value) (n : Nat) (xs : List Value) (b : Nat) (news : List Value)
    (hs : a.eval s = v) (hx : a.eval x = .slice (some ⟨b, 0, none⟩) 1 1) (hown : w.ownsRow base e size v n xs) (hl : news.length = size) (hc : ∀ j u, news[j]? = some u → w.cell? ⟨b, j, none⟩ = some u) (h1 : ∀ u ∈ news, u.oneCell' = true)
    (h63 : n ≤ 1000000) (hby : bytes ≤ 1000) (hB : base ≤ w.heap.size)
    (hK : ∀ g cap w', w'.ownsRow base e size (.slice (some ⟨g, 0, none⟩) (n + 1) cap) (n + 1) (xs ++ news) → Kept (fun b => v.ownBlock = some b) w w' → (v.ownBlock = some g ∨ w.heap.size ≤ g) → g < w'.heap.size → K (a.put o.dst (.slice (some ⟨g, 0, none⟩) (n + 1) cap)) w') :
    if Region.wanted o (yielded ops a.tmps) = true then Oper.wp P o a w K Q else R := by
  have hw : Region.wanted o (yielded ops a.tmps) = true := by simp [Region.wanted, hg]
  rw [if_pos hw]
  obtain ⟨i, z, hi, hz, hsz, hbyt, hzs⟩ := E.info
  have hnews : ∀ j u, news[j]? = some u → w.cell? ((⟨b, 0, none⟩ : Addr).add j) = some u := by
    intro j u hj
    have : (⟨b, 0, none⟩ : Addr).add j = ⟨b, j, none⟩ := by unfold Addr.add; split <;> simp_all
    rw [this]; exact hc j u hj
  obtain ⟨v', w', hr, hown', hgr, hor⟩ := run_append_new (P := P) w base t o.type e i z size bytes E.under hi hz hsz hbyt hzs E.pos v n xs hown ⟨b, 0, none⟩ 1 1 news (by omega) hnews h1 (by unfold maxLen; omega) (Nat.le_trans (Nat.mul_le_mul_left (n + 1) hby) (by omega)) hB (by omega)
  have hex : ∃ g cap, v' = .slice (some ⟨g, 0, none⟩) (n + 1) cap := by
    rcases hown'.2 with ⟨-, h0⟩ | ⟨g, cap, cur, hv, -⟩
    · omega
    · exact ⟨g, cap, hv⟩
  obtain ⟨g, cap, rfl⟩ := hex
  unfold Oper.wp
  simp [execOp, hop, resolve, invoke, builtin, hs, hx, hr, Result.andThen]
  refine hK g cap w' hown' (Kept.of_grown hgr) ?_ (ownsRow_block hown' rfl).2
  rcases hor with hor | hor
  · left; rw [← hor]; rfl
  · right
    simp [Value.ownBlock] at hor
    omega
theorem wpList_one {t e size bytes : Nat} {ops : Array Oper} {rest : List Oper} {o : Oper} {a : Act} {w : World} {Q : Exit → Act → World → Prop} (hg : o.guard = none) (s x : Operand)
    (hop : o.op = Op.call { callee := Callee.builtin Builtin.append, args := #[s, x], argTypes := #[t, t] }) (E : ElemOk P t e size bytes) (base : Nat) (v : Value) (n : Nat) (xs : List Value) (b : Nat) (news : List Value)
    (hs : a.eval s = v) (hx : a.eval x = .slice (some ⟨b, 0, none⟩) 1 1) (hown : w.ownsRow base e size v n xs) (hl : news.length = size) (hc : ∀ j u, news[j]? = some u → w.cell? ⟨b, j, none⟩ = some u) (h1 : ∀ u ∈ news, u.oneCell' = true)
    (h63 : n ≤ 1000000) (hby : bytes ≤ 1000) (hB : base ≤ w.heap.size)
    (hK : ∀ g cap w', w'.ownsRow base e size (.slice (some ⟨g, 0, none⟩) (n + 1) cap) (n + 1) (xs ++ news) → Kept (fun b => v.ownBlock = some b) w w' → (v.ownBlock = some g ∨ w.heap.size ≤ g) → g < w'.heap.size → wpList P ops Q rest (a.put o.dst (.slice (some ⟨g, 0, none⟩) (n + 1) cap)) w') :
    wpList P ops Q (o :: rest) a w := by
  refine wpList_plain hg fun K hK' => ?_
  have := step_one (P := P) (ops := ops) (o := o) (a := a) (w := w) (K := K) (Q := fun x a w => Q x a w) (R := True) hg s x hop E base v n xs b news hs hx hown hl hc h1 h63 hby hB (fun g cap w' h2 h3 h4 h5 => hK' _ _ (hK g cap w' h2 h3 h4 h5))
  have hw : Region.wanted o (yielded ops a.tmps) = true := by simp [Region.wanted, hg]
  rw [if_pos hw] at this
  exact this
end Go.Proofs.YtjlcchjcppkbjaaDoor
/- A quiet region behind a quiet region; four results. (Lemmas of the guide extra-small, as it says to do.) -/
namespace Go.Proofs.YtjlcchjcppkbjaaDoor
open Go.RowKit
theorem quiet_add_same {P : Program} {f : FuncId} {args : Array Value} {w : World} {a n : Nat} {v : Value}
    (h : Calls P f args (w.drewN (a + n)) fun e w' => e = .returned v ∧ w' = w.drewN (a + n)) :
    Calls P f args (w.drewN (a + n)) fun e w'' => e = .returned v ∧ ∃ m, w'' = w.drewN (a + m) :=
  h.mono fun _ _ ⟨he, hm⟩ => ⟨he, n, hm⟩
theorem results_tmp4 {fn : Func} {t u v x : Tmp} (h : fn.results = #[.tmp t, .tmp u, .tmp v, .tmp x]) (tmps : Array Value) (P : Program) (w : World) :
    (results fn tmps).run P w = .ok (.tuple #[tmps.getD t undef, tmps.getD u undef, tmps.getD v undef, tmps.getD x undef]) w := by simp [results, h]
/-- A block and a number below 64. -/
theorem or_i64 (x : Int) (s : Nat) (h0 : 0 ≤ x) (h1 : x < 9223372036854775808) (hm : x % 64 = 0) (hs : s < 64) : bits .or .i64 x (s : Int) = x + s :=
  have e : (2 : Int) ^ 63 = 9223372036854775808 := by decide
  have e6 : (2 : Int) ^ 6 = 64 := by decide
  bits_join .i64 63 (by decide) (fun n h0 h1 => by rw [IntKind.wrap_i64]; rw [e] at h1; omega) 6 x s h0 (by rw [e6]; exact hm) (by rw [e]; exact h1) (by omega) (by rw [e6]; omega) (by rw [e]; omega)
end Go.Proofs.YtjlcchjcppkbjaaDoor
/- Slices of structs of whole numbers as arguments. (open_sliceK came out of the guide extra-structs, as it says to do.) -/
namespace Go.Proofs.YtjlcchjcppkbjaaDoor
open Go.RowKit Go.ChangeShapes Go.WideShapes Go.Deep
section
variable {H : Type} {enc : TypeId × Value → H} {P : Program} {w : World} {base : Nat} {spare : Nat → Bool} {held : Bool}
theorem open_sliceK {t e : TypeId} {fs : Array Field} {fuel : Nat} {cs : List Value} {x : DataW H × List MemPlace} (ht : P.underlying t = some (.slice e)) (he : P.underlying e = some (.struct fs))
    (hone : oneCellFields P fs = true) (hC : P.cellsOf e = fs.size) (h : DataW.trod enc P w base spare held fuel t cs = some x) :
    (cs = [.slice none 0 0] ∧ x = (.nil, [])) ∨
    ∃ (a : Addr) (len cap m : Nat) (D : Nat → DataW H) (Pl : Nat → List MemPlace), cs = [.slice (some a) len cap] ∧ base ≤ a.block ∧ len ≤ cap ∧ cap ≤ maxLen ∧ m = (if spare a.block then cap else len) ∧
      ∀ i, i < m → ∃ (ys : List (DataW H × List MemPlace)) (n : Nat), D i = .agg (ys.map (·.1)) ∧ Pl i = ys.flatMap (·.2) ∧ ys.length = fs.size ∧
        ∀ (j : Nat) (f : Field), fs[j]? = some f → ∃ (v : Value) (y : DataW H × List MemPlace), w.cell? (a.add (i * fs.size + j)) = some v ∧ ys[j]? = some y ∧ DataW.trod enc P w base spare held n f.type [v] = some y := by
  rcases open_slice ht h with h0 | ⟨a, len, cap, m, n, D, Pl, hcs, hb, hl, hm, hmm, hx, hi⟩
  · exact .inl h0
  · refine .inr ⟨a, len, cap, m, D, Pl, hcs, hb, hl, hm, hmm, fun i him => ?_⟩
    obtain ⟨cs', hc, ht'⟩ := hi i him
    rw [hC] at hc
    obtain ⟨ys, n', hn', hy, hlen, hyl, hf⟩ := DataW.trod_struct he ht'
    obtain ⟨_, hcl, hat⟩ := World.cells?_some hc
    simp only [Prod.mk.injEq] at hy
    refine ⟨ys, n', hy.1, hy.2, hyl, fun j f hj => ?_⟩
    obtain ⟨ho, hk⟩ := hone_of hone j f hj
    have hjl : j < fs.size := (Array.getElem?_eq_some_iff.1 hj).1
    have hcell := hat j hjl
    have hv : cs'[j]? = some (cs'[j]'(by omega)) := List.getElem?_eq_getElem (by omega)
    have h1 := hf j f hj
    rw [ho, hk] at h1
    have hone' : (cs'.drop j).take 1 = [cs'[j]'(by omega)] := by
      rw [List.drop_eq_getElem_cons (by omega)]
      rfl
    rw [hone'] at h1
    have hys : ys[j]? = some (ys[j]'(by omega)) := List.getElem?_eq_getElem (by omega)
    refine ⟨_, _, ?_, hys, h1.trans hys⟩
    rw [← Go.Deep.add_add, hcell, hv]
end
section
variable {H : Type} {enc : TypeId × Value → H} {P : Program}
theorem slice_fieldsK {t e : TypeId} {fs : Array Field} {α : Type} {f : α → List Value} {n : Nat} {W : World} {base : Nat} {v : Value} {d : DataW H} {ps : List MemPlace} {held : Bool} (kd : Nat → IntKind) (ht : P.underlying t = some (.slice e)) (he : P.underlying e = some (.struct fs))
    (hone : oneCellFields P fs = true) (hC : P.cellsOf e = fs.size) (hn : fs.size = n) (hpos : 0 < n) (mk : (Nat → Int) → α) (hmk : ∀ g, (f (mk g)) = (List.range n).map fun j => .int (kd j) (g j)) (hint : ∀ (j : Nat) (fl : Field), fs[j]? = some fl → P.underlying fl.type = some (.int (kd j)))
    (hv : Value.okWide P W .any base t v) (h : DataW.Trod enc P W 0 (fun _ => true) held t v d ps) :
    ∃ xs : List α, Rows f n W v xs ∧ xs.length ≤ maxLen ∧ ∀ x ∈ xs, ∃ g, x = mk g ∧ ∀ j, j < n → (Lit.int (kd j) (g j)).wf = true := by
  obtain ⟨a0, len, cap, rfl⟩ := okWide_slice ht hv
  obtain ⟨fuel, hf⟩ := h
  rcases open_sliceK ht he hone hC hf with ⟨hcs, hx⟩ | ⟨a, len', cap', m, D, Pl, hcs, _, hl, hm, hmm, hcell⟩
  · simp [Value.cells] at hcs
    obtain ⟨rfl, rfl, rfl⟩ := hcs
    exact ⟨[], Rows.nil _ _ _, Nat.zero_le _, by simp⟩
  · simp [Value.cells] at hcs
    obtain ⟨rfl, rfl, rfl⟩ := hcs
    simp only [if_true] at hmm
    subst hmm
    have each : ∀ i, i < len → ∃ g : Nat → Int, ∀ j, j < n → W.cell? (a.add (i * n + j)) = some (.int (kd j) (g j)) ∧ (Lit.int (kd j) (g j)).wf = true := fun i hi => by
      obtain ⟨ys, m, -, -, -, hj⟩ := hcell i (by omega)
      have q : ∀ j, j < n → ∃ z : Int, W.cell? (a.add (i * n + j)) = some (.int (kd j) z) ∧ (Lit.int (kd j) z).wf = true := fun j hjn => by
        have hfl : fs[j]? = some fs[j] := Array.getElem?_eq_getElem (by omega)
        obtain ⟨v, y, g1, -, g3⟩ := hj j _ hfl
        obtain ⟨z, e, -, wf⟩ := DataW.trod_int (hint j _ hfl) g3
        injection e with e _
        exact ⟨z, by rw [← hn, g1, e], wf⟩
      exact choose_lt q
    obtain ⟨q, hq⟩ := choose_lt each
    refine ⟨(List.range len).map fun i => mk (q i), ?_, by simp; omega, fun x hx => ?_⟩
    · by_cases h0 : len = 0
      · subst h0; exact .inl ⟨_, _, rfl, rfl⟩
      · have hn0 := hpos
        obtain ⟨b, off, spot⟩ := a
        have hspot : spot = none := by simpa [Addr.add] using World.cell?_spot ((hq 0 (by omega) 0 hn0).1)
        subst hspot
        have hb := World.block_lt_of_cell? _ _ ((hq 0 (by omega) 0 hn0).1)
        simp only [add_plain] at hb
        refine .inr ⟨b, off, _, by rw [List.length_map, List.length_range], by rw [List.length_map, List.length_range]; omega, hb, fun j x hx i u hu => ?_⟩
        have hj : j < len := by have := (List.getElem?_eq_some_iff.1 hx).1; simpa using this
        rw [List.getElem?_map, List.getElem?_range hj] at hx
        simp at hx
        subst hx
        rw [hmk] at hu
        have hi : i < n := by have := (List.getElem?_eq_some_iff.1 hu).1; simpa using this
        rw [List.getElem?_map, List.getElem?_range hi] at hu
        simp at hu
        subst hu
        have := (hq j hj i hi).1
        simpa [add_plain, Nat.add_assoc] using this
    · simp at hx
      obtain ⟨i, hi, rfl⟩ := hx
      exact ⟨q i, rfl, fun j hj => (hq i hi j hj).2⟩
end
end Go.Proofs.YtjlcchjcppkbjaaDoor
/- A slice of structs that a call makes for itself, element by element. -/
namespace Go.Proofs.YtjlcchjcppkbjaaDoor
open Go.RowKit
variable {α : Type} {f : α → List Value} {n e : Nat}

/-- The slice v, in blocks newer than w, holds xs; nothing of w has changed. -/
def RO (f : α → List Value) (n e : Nat) (w wk : World) (v : Value) (xs : List α) : Prop := wk.ownsRow w.heap.size e n v xs.length (cellsL f xs) ∧ w.heap.size ≤ wk.heap.size ∧ Kept (fun _ => False) w wk
theorem RO.start (f : α → List Value) (n e : Nat) (w : World) : RO f n e w w (.slice none 0 0) [] := ⟨⟨by simp [cellsL], .inl ⟨rfl, rfl⟩⟩, Nat.le_refl _, Kept.refl _ _⟩
theorem RO.step {w w1 w2 : World} {v1 v2 : Value} {x1 x2 : List α} (h : RO f n e w w1 v1 x1) (h2 : w2.ownsRow w.heap.size e n v2 x2.length (cellsL f x2)) (K : Kept (fun b => v1.ownBlock = some b) w1 w2) : RO f n e w w2 v2 x2 :=
  ⟨h2, Nat.le_trans h.2.1 K.size, h.2.2.trans K fun i hi hv => by have := (ownsRow_block h.1 hv).1; omega⟩
theorem RO.move {w w1 w2 : World} {v1 : Value} {x1 : List α} (h : RO f n e w w1 v1 x1) (K : Kept (fun _ => False) w1 w2) : RO f n e w w2 v1 x1 :=
  ⟨ownsRow_kept h.1 K (fun _ _ _ h => h), Nat.le_trans h.2.1 K.size, h.2.2.trans K fun _ _ h => h⟩
theorem RO.base {w w1 wk : World} {v : Value} {xs : List α} (h : RO f n e w1 wk v xs) (K : Kept (fun _ => False) w w1) : RO f n e w wk v xs :=
  ⟨ownsRow_base h.1 K.size, Nat.le_trans K.size h.2.1, K.trans h.2.2 fun _ _ h => h⟩
theorem RO.val {w w1 : World} {v : Value} {xs : List α} (h : RO f n e w w1 v xs) : ∃ p c, v = .slice p xs.length c := by
  rcases h.1.2 with ⟨rfl, h0⟩ | ⟨g, cap, cur, rfl, -⟩
  · exact ⟨none, 0, by rw [h0]⟩
  · exact ⟨_, cap, rfl⟩
theorem RO.rows (hf : ∀ x, (f x).length = n) {w w1 : World} {v : Value} {xs : List α} (h : RO f n e w w1 v xs) : Rows f n w1 v xs := Rows.of_own hf h.1
/-- One more. -/
theorem RO.snoc {w w1 w2 : World} {v1 v2 : Value} {m : Nat} {x1 : List α} {x : α} (h : RO f n e w w1 v1 x1) (hm : x1.length = m) (h2 : w2.ownsRow w.heap.size e n v2 (m + 1) (cellsL f x1 ++ f x)) (K : Kept (fun b => v1.ownBlock = some b) w1 w2) : RO f n e w w2 v2 (x1 ++ [x]) := by
  refine h.step ?_ K
  rw [cellsL_append, cellsL_one, List.length_append, List.length_singleton, hm]
  exact h2
theorem cells_ints (l : List Int) : cellsL (fun x => [Value.int .i64 x]) l = l.map (Value.int .i64) := by
  induction l with
  | nil => rfl
  | cons x l ih => rw [cellsL_cons, ih]; rfl
end Go.Proofs.YtjlcchjcppkbjaaDoor

/- ArModel: texts for the statements of this seat: contracts of functions, walks, plain laws. Conditions: none. -/
import Derived.WalkKit
import Derived.Deep.Quiet
set_option linter.all false
/- The plain model of package arena, and how an arena lies in memory. -/
namespace Go.Proofs.Ytelgknecainlfaa
open Go.RowKit

/-- A slot. -/
structure Sl where
  use : Int
  v : Int
  taken : Bool
  next : Int

/-- An arena. -/
structure Ar where
  sl : List Sl
  freed : Int
  fresh : Int
  taken : Int
  lost : Int

namespace Ar
/-- A new arena. -/
def empty (n : Nat) : Ar := { sl := List.replicate n { use := 0, v := 0, taken := false, next := 0 }, freed := -1, fresh := 0, taken := 0, lost := 0 }
/-- The slot that a handle names. -/
def find (A : Ar) (h : Int) : Option (Nat × Sl) :=
  if h < 4096 then none else
  match A.sl[(h % 4096).toNat]? with
  | some s => if s.taken = true ∧ 4096 * s.use + h % 4096 = h then some ((h % 4096).toNat, s) else none
  | none => none

/-- What Put does with the slot k, once it is chosen. -/
def fill (A : Ar) (k : Nat) (s : Sl) (v : Int) : Ar :=
  { A with sl := A.sl.set k { use := s.use + 1, v := v, taken := true, next := -1 }, taken := A.taken + 1 }

/-- Put: the arena behind it, the handle, the error. -/
def put (A : Ar) (v : Int) : Ar × Int × Int :=
  if 0 ≤ A.freed then
    match A.sl[A.freed.toNat]? with
    | some s => ({ A.fill A.freed.toNat s v with freed := s.next }, 4096 * (s.use + 1) + A.freed, 0)
    | none => (A, 0, 4)
  else
    match A.sl[A.fresh.toNat]? with
    | some s => ({ A.fill A.fresh.toNat s v with fresh := A.fresh + 1 }, 4096 * (s.use + 1) + A.fresh, 0)
    | none => (A, 0, 4)
/-- Get: the number, and whether there is one. -/
def get (A : Ar) (h : Int) : Int × Bool :=
  match A.find h with
  | some (_, s) => (s.v, true)
  | none => (0, false)
/-- Free: the arena behind it, the error. -/
def free (A : Ar) (h : Int) : Ar × Int :=
  match A.find h with
  | some (k, s) =>
    if s.use = 2147483648 then ({ A with sl := A.sl.set k { s with taken := false }, taken := A.taken - 1, lost := A.lost + 1 }, 0)
    else ({ A with sl := A.sl.set k { s with taken := false, next := A.freed }, taken := A.taken - 1, freed := k }, 0)
  | none => (A, 5)
def room (A : Ar) : Int := A.sl.length - A.taken - A.lost
theorem find_spec {A : Ar} {h : Int} {k : Nat} {s : Sl} (hf : A.find h = some (k, s)) : 4096 ≤ h ∧ (k : Int) = h % 4096 ∧ A.sl[k]? = some s ∧ s.taken = true ∧ 4096 * s.use + k = h := by
  unfold find at hf
  split at hf
  · simp at hf
  · rename_i h0
    split at hf
    · rename_i s' hs
      split at hf
      · rename_i hc
        simp only [Option.some.injEq, Prod.mk.injEq] at hf
        obtain ⟨rfl, rfl⟩ := hf
        exact ⟨by omega, by omega, hs, hc.1, by omega⟩
      · simp at hf
    · simp at hf
theorem find_mk {A : Ar} {h : Int} {k : Nat} {s : Sl} (h0 : 4096 ≤ h) (hk : (k : Int) = h % 4096) (hs : A.sl[k]? = some s) (ht : s.taken = true) (hu : 4096 * s.use + k = h) : A.find h = some (k, s) := by
  have e : (h % 4096).toNat = k := by omega
  unfold find
  rw [if_neg (by omega), e, hs]
  simp only [ht, true_and]
  rw [if_pos (by omega)]

/-- Bounds that keep the numbers of an arena from wrapping. -/
structure Ok (A : Ar) : Prop where
  len : A.sl.length ≤ 4096
  fd0 : -1 ≤ A.freed
  fd1 : A.freed < A.sl.length
  fr0 : 0 ≤ A.fresh
  fr1 : A.fresh ≤ A.sl.length
  use : ∀ s ∈ A.sl, 0 ≤ s.use ∧ s.use ≤ 4294967296
  next : ∀ s ∈ A.sl, -1 ≤ s.next ∧ s.next < A.sl.length
  tk : 0 ≤ A.taken ∧ A.taken ≤ 4294967296
  lo : 0 ≤ A.lost ∧ A.lost ≤ 4294967296
end Ar

/-- The cells of a slot. -/
structure SlAt (w : World) (sb k : Nat) (s : Sl) : Prop where
  use : w.cell? ⟨sb, k * 4, none⟩ = some (.int .i64 s.use)
  v : w.cell? ⟨sb, k * 4 + 1, none⟩ = some (.int .i64 s.v)
  taken : w.cell? ⟨sb, k * 4 + 2, none⟩ = some (.bool s.taken)
  next : w.cell? ⟨sb, k * 4 + 3, none⟩ = some (.int .i64 s.next)

/-- An arena in memory: its struct in block ab, its slots in block sb. -/
structure IsAr (w : World) (ab sb cap : Nat) (A : Ar) : Prop where
  made : w.cell? ⟨ab, 0, none⟩ = some (.bool true)
  slots : w.cell? ⟨ab, 1, none⟩ = some (.slice (some ⟨sb, 0, none⟩) A.sl.length cap)
  freed : w.cell? ⟨ab, 2, none⟩ = some (.int .i64 A.freed)
  fresh : w.cell? ⟨ab, 3, none⟩ = some (.int .i64 A.fresh)
  taken : w.cell? ⟨ab, 4, none⟩ = some (.int .i64 A.taken)
  lost : w.cell? ⟨ab, 5, none⟩ = some (.int .i64 A.lost)
  slot : ∀ k s, A.sl[k]? = some s → SlAt w sb k s
  fza : ∀ o, w.frozen? ⟨ab, o, none⟩ = false
  fzs : ∀ o, w.frozen? ⟨sb, o, none⟩ = false
  ne : ab ≠ sb
  lta : ab < w.heap.size
  lts : sb < w.heap.size

/-! ### Worlds -/

theorem cell_set (w : World) (a b : Addr) (v : Value) (h : (w.cell? a).isSome = true) : (w.setCell a v).cell? b = if b = a then some v else w.cell? b := by
  by_cases e : b = a
  · subst e
    obtain ⟨u, hu⟩ := Option.isSome_iff_exists.1 h
    rw [if_pos rfl]; exact World.cell?_setCell_same w b v hu
  · rw [if_neg e, World.cell?_setCell_other (h := fun q => e q.symm)]

theorem cell_set_blk (w : World) (a b : Addr) (v : Value) (h : b.block ≠ a.block) : (w.setCell a v).cell? b = w.cell? b :=
  World.cell?_setCell_other w a b v (fun q => h (by rw [q]))

/-- All blocks of w but those of S are in w' as they were. -/
structure Kept (S : Nat → Prop) (w w' : World) : Prop where
  os : w'.os = w.os
  tape : w'.tape = w.tape
  output : w'.output = w.output
  size : w.heap.size ≤ w'.heap.size
  block : ∀ k, k < w.heap.size → ¬ S k → w'.heap[k]? = w.heap[k]?

namespace Kept
variable {S T : Nat → Prop} {w w' w'' : World}
theorem refl (S : Nat → Prop) (w : World) : Kept S w w := ⟨rfl, rfl, rfl, Nat.le_refl _, fun _ _ _ => rfl⟩
theorem trans (h : Kept S w w') (k : Kept T w' w'') (hT : ∀ i, i < w.heap.size → T i → S i) : Kept S w w'' :=
  ⟨k.os.trans h.os, k.tape.trans h.tape, k.output.trans h.output, Nat.le_trans h.size k.size,
   fun i hi hn => (k.block i (Nat.lt_of_lt_of_le hi h.size) (fun t => hn (hT i hi t))).trans (h.block i hi hn)⟩
theorem mono (h : Kept S w w') (hS : ∀ i, i < w.heap.size → S i → T i) : Kept T w w' :=
  ⟨h.os, h.tape, h.output, h.size, fun i hi hn => h.block i hi (fun s => hn (hS i hi s))⟩
theorem drew (h : Kept S w w') : Kept S w w'.drew := ⟨h.os, h.tape, h.output, h.size, h.block⟩
theorem drewN (h : Kept S w w') (n : Nat) : Kept S w (w'.drewN n) := ⟨h.os, h.tape, h.output, h.size, h.block⟩
theorem alloc (h : Kept S w w') (o : Obj) : Kept S w (w'.alloc o) :=
  ⟨h.os, h.tape, h.output, by have := h.size; simp; omega, fun i hi hn => by
    rw [Below.heap_alloc _ _ _ (Nat.lt_of_lt_of_le hi h.size)]; exact h.block i hi hn⟩
theorem setCell (h : Kept S w w') (a : Addr) (v : Value) (ha : a.block < w.heap.size → S a.block) : Kept S w (w'.setCell a v) :=
  ⟨h.os, h.tape, h.output, by have := h.size; simp; omega, fun i hi hn => by
    rw [Below.heap_setCell _ _ _ _ (fun e => hn (by subst e; exact ha hi))]; exact h.block i hi hn⟩
theorem cell (h : Kept S w w') {a : Addr} (hi : a.block < w.heap.size) (hn : ¬ S a.block) : w'.cell? a = w.cell? a :=
  World.cell?_of_block (h.block _ hi hn)
theorem frozen (h : Kept S w w') {a : Addr} (hi : a.block < w.heap.size) (hn : ¬ S a.block) : w'.frozen? a = w.frozen? a :=
  World.frozen?_of_block (h.block _ hi hn)
theorem below (h : Kept S w w') {B : Nat} (hB : B ≤ w.heap.size) (hS : ∀ i, i < B → ¬ S i) : Below B w w' :=
  ⟨h.os, h.tape, h.output, h.size, fun i hi => h.block i (Nat.lt_of_lt_of_le hi hB) (hS i hi)⟩
end Kept

/-- An arena in blocks that nobody has touched. -/
theorem IsAr.kept {S : Nat → Prop} {w w' : World} {ab sb cap : Nat} {A : Ar} (I : IsAr w ab sb cap A) (h : Kept S w w') (ha : ¬ S ab) (hs : ¬ S sb) : IsAr w' ab sb cap A where
  made := (h.cell (a := ⟨ab, 0, none⟩) I.lta ha).trans I.made
  slots := (h.cell (a := ⟨ab, 1, none⟩) I.lta ha).trans I.slots
  freed := (h.cell (a := ⟨ab, 2, none⟩) I.lta ha).trans I.freed
  fresh := (h.cell (a := ⟨ab, 3, none⟩) I.lta ha).trans I.fresh
  taken := (h.cell (a := ⟨ab, 4, none⟩) I.lta ha).trans I.taken
  lost := (h.cell (a := ⟨ab, 5, none⟩) I.lta ha).trans I.lost
  slot := fun k s hk =>
    have c := I.slot k s hk
    ⟨(h.cell (a := ⟨sb, k * 4, none⟩) I.lts hs).trans c.use, (h.cell (a := ⟨sb, k * 4 + 1, none⟩) I.lts hs).trans c.v,
     (h.cell (a := ⟨sb, k * 4 + 2, none⟩) I.lts hs).trans c.taken, (h.cell (a := ⟨sb, k * 4 + 3, none⟩) I.lts hs).trans c.next⟩
  fza := fun o => (h.frozen (a := ⟨ab, o, none⟩) I.lta ha).trans (I.fza o)
  fzs := fun o => (h.frozen (a := ⟨sb, o, none⟩) I.lts hs).trans (I.fzs o)
  ne := I.ne
  lta := Nat.lt_of_lt_of_le I.lta h.size
  lts := Nat.lt_of_lt_of_le I.lts h.size

/-! ### One store at a time -/

theorem IsAr.drew {w : World} {ab sb cap : Nat} {A : Ar} (I : IsAr w ab sb cap A) : IsAr w.drew ab sb cap A :=
  ⟨I.made, I.slots, I.freed, I.fresh, I.taken, I.lost, fun k s h => ⟨(I.slot k s h).use, (I.slot k s h).v, (I.slot k s h).taken, (I.slot k s h).next⟩, I.fza, I.fzs, I.ne, I.lta, I.lts⟩

theorem IsAr.drewN {w : World} {ab sb cap : Nat} {A : Ar} (I : IsAr w ab sb cap A) (n : Nat) : IsAr (w.drewN n) ab sb cap A :=
  ⟨I.made, I.slots, I.freed, I.fresh, I.taken, I.lost, fun k s h => ⟨(I.slot k s h).use, (I.slot k s h).v, (I.slot k s h).taken, (I.slot k s h).next⟩, I.fza, I.fzs, I.ne, I.lta, I.lts⟩

theorem SlAt.other {w : World} {sb k : Nat} {s : Sl} (S : SlAt w sb k s) (a : Addr) (v : Value) (h : sb ≠ a.block) : SlAt (w.setCell a v) sb k s :=
  ⟨(cell_set_blk w a ⟨sb, _, none⟩ v h).trans S.use, (cell_set_blk w a ⟨sb, _, none⟩ v h).trans S.v, (cell_set_blk w a ⟨sb, _, none⟩ v h).trans S.taken, (cell_set_blk w a ⟨sb, _, none⟩ v h).trans S.next⟩

/-- A cell in the same block, at another offset. -/
theorem cell_set_off (w : World) (b o o' : Nat) (v : Value) (h : o' ≠ o) : (w.setCell ⟨b, o, none⟩ v).cell? ⟨b, o', none⟩ = w.cell? ⟨b, o', none⟩ :=
  World.cell?_setCell_other w ⟨b, o, none⟩ ⟨b, o', none⟩ v (fun q => h (by injection q with _ q2; exact q2.symm))
theorem cell_set_at {w : World} {a : Addr} {u : Value} (v : Value) (h : w.cell? a = some u) : (w.setCell a v).cell? a = some v := World.cell?_setCell_same w a v h

theorem IsAr.setFreed {w : World} {ab sb cap : Nat} {A : Ar} (I : IsAr w ab sb cap A) (x : Int) : IsAr (w.setCell ⟨ab, 2, none⟩ (.int .i64 x)) ab sb cap { A with freed := x } where
  made := (cell_set_off w ab 2 0 _ (by decide)).trans I.made
  slots := (cell_set_off w ab 2 1 _ (by decide)).trans I.slots
  freed := cell_set_at _ I.freed
  fresh := (cell_set_off w ab 2 3 _ (by decide)).trans I.fresh
  taken := (cell_set_off w ab 2 4 _ (by decide)).trans I.taken
  lost := (cell_set_off w ab 2 5 _ (by decide)).trans I.lost
  slot := fun k s h => (I.slot k s h).other _ _ I.ne.symm
  fza := fun o => (World.frozen?_setCell ..).trans (I.fza o)
  fzs := fun o => (World.frozen?_setCell ..).trans (I.fzs o)
  ne := I.ne
  lta := by simpa using I.lta
  lts := by simpa using I.lts

theorem IsAr.setFresh {w : World} {ab sb cap : Nat} {A : Ar} (I : IsAr w ab sb cap A) (x : Int) : IsAr (w.setCell ⟨ab, 3, none⟩ (.int .i64 x)) ab sb cap { A with fresh := x } where
  made := (cell_set_off w ab 3 0 _ (by decide)).trans I.made
  slots := (cell_set_off w ab 3 1 _ (by decide)).trans I.slots
  freed := (cell_set_off w ab 3 2 _ (by decide)).trans I.freed
  fresh := cell_set_at _ I.fresh
  taken := (cell_set_off w ab 3 4 _ (by decide)).trans I.taken
  lost := (cell_set_off w ab 3 5 _ (by decide)).trans I.lost
  slot := fun k s h => (I.slot k s h).other _ _ I.ne.symm
  fza := fun o => (World.frozen?_setCell ..).trans (I.fza o)
  fzs := fun o => (World.frozen?_setCell ..).trans (I.fzs o)
  ne := I.ne
  lta := by simpa using I.lta
  lts := by simpa using I.lts

theorem IsAr.setTaken {w : World} {ab sb cap : Nat} {A : Ar} (I : IsAr w ab sb cap A) (x : Int) : IsAr (w.setCell ⟨ab, 4, none⟩ (.int .i64 x)) ab sb cap { A with taken := x } where
  made := (cell_set_off w ab 4 0 _ (by decide)).trans I.made
  slots := (cell_set_off w ab 4 1 _ (by decide)).trans I.slots
  freed := (cell_set_off w ab 4 2 _ (by decide)).trans I.freed
  fresh := (cell_set_off w ab 4 3 _ (by decide)).trans I.fresh
  taken := cell_set_at _ I.taken
  lost := (cell_set_off w ab 4 5 _ (by decide)).trans I.lost
  slot := fun k s h => (I.slot k s h).other _ _ I.ne.symm
  fza := fun o => (World.frozen?_setCell ..).trans (I.fza o)
  fzs := fun o => (World.frozen?_setCell ..).trans (I.fzs o)
  ne := I.ne
  lta := by simpa using I.lta
  lts := by simpa using I.lts

theorem IsAr.setLost {w : World} {ab sb cap : Nat} {A : Ar} (I : IsAr w ab sb cap A) (x : Int) : IsAr (w.setCell ⟨ab, 5, none⟩ (.int .i64 x)) ab sb cap { A with lost := x } where
  made := (cell_set_off w ab 5 0 _ (by decide)).trans I.made
  slots := (cell_set_off w ab 5 1 _ (by decide)).trans I.slots
  freed := (cell_set_off w ab 5 2 _ (by decide)).trans I.freed
  fresh := (cell_set_off w ab 5 3 _ (by decide)).trans I.fresh
  taken := (cell_set_off w ab 5 4 _ (by decide)).trans I.taken
  lost := cell_set_at _ I.lost
  slot := fun k s h => (I.slot k s h).other _ _ I.ne.symm
  fza := fun o => (World.frozen?_setCell ..).trans (I.fza o)
  fzs := fun o => (World.frozen?_setCell ..).trans (I.fzs o)
  ne := I.ne
  lta := by simpa using I.lta
  lts := by simpa using I.lts

/-- One cell of a slot. -/
theorem IsAr.setSlot {w : World} {ab sb cap : Nat} {A : Ar} (I : IsAr w ab sb cap A) {k : Nat} {s : Sl} (hs : A.sl[k]? = some s) (t : Sl) (j : Nat) (v : Value)
    (hj : j < 4) (h0 : j = 0 ∧ t = { s with use := t.use } ∧ v = .int .i64 t.use ∨ j = 1 ∧ t = { s with v := t.v } ∧ v = .int .i64 t.v ∨
      j = 2 ∧ t = { s with taken := t.taken } ∧ v = .bool t.taken ∨ j = 3 ∧ t = { s with next := t.next } ∧ v = .int .i64 t.next) :
    IsAr (w.setCell ⟨sb, k * 4 + j, none⟩ v) ab sb cap { A with sl := A.sl.set k t } where
  made := (cell_set_blk w _ ⟨ab, 0, none⟩ _ I.ne).trans I.made
  slots := by rw [List.length_set]; exact (cell_set_blk w _ ⟨ab, 1, none⟩ _ I.ne).trans I.slots
  freed := (cell_set_blk w _ ⟨ab, 2, none⟩ _ I.ne).trans I.freed
  fresh := (cell_set_blk w _ ⟨ab, 3, none⟩ _ I.ne).trans I.fresh
  taken := (cell_set_blk w _ ⟨ab, 4, none⟩ _ I.ne).trans I.taken
  lost := (cell_set_blk w _ ⟨ab, 5, none⟩ _ I.ne).trans I.lost
  slot := by
    intro k' s' h
    have S := I.slot k s hs
    by_cases e : k' = k
    · subst e
      have hl : k' < A.sl.length := (List.getElem?_eq_some_iff.1 hs).1
      simp only [List.getElem?_set_self hl] at h
      obtain rfl := Option.some.inj h
      rcases h0 with ⟨rfl, ht, rfl⟩ | ⟨rfl, ht, rfl⟩ | ⟨rfl, ht, rfl⟩ | ⟨rfl, ht, rfl⟩
      · have q1 : t.v = s.v := by rw [ht]
        have q2 : t.taken = s.taken := by rw [ht]
        have q3 : t.next = s.next := by rw [ht]
        exact ⟨cell_set_at _ S.use, by rw [q1]; exact (cell_set_off w sb _ _ _ (by omega)).trans S.v, by rw [q2]; exact (cell_set_off w sb _ _ _ (by omega)).trans S.taken, by rw [q3]; exact (cell_set_off w sb _ _ _ (by omega)).trans S.next⟩
      · have q1 : t.use = s.use := by rw [ht]
        have q2 : t.taken = s.taken := by rw [ht]
        have q3 : t.next = s.next := by rw [ht]
        exact ⟨by rw [q1]; exact (cell_set_off w sb _ _ _ (by omega)).trans S.use, cell_set_at _ S.v, by rw [q2]; exact (cell_set_off w sb _ _ _ (by omega)).trans S.taken, by rw [q3]; exact (cell_set_off w sb _ _ _ (by omega)).trans S.next⟩
      · have q1 : t.use = s.use := by rw [ht]
        have q2 : t.v = s.v := by rw [ht]
        have q3 : t.next = s.next := by rw [ht]
        exact ⟨by rw [q1]; exact (cell_set_off w sb _ _ _ (by omega)).trans S.use, by rw [q2]; exact (cell_set_off w sb _ _ _ (by omega)).trans S.v, cell_set_at _ S.taken, by rw [q3]; exact (cell_set_off w sb _ _ _ (by omega)).trans S.next⟩
      · have q1 : t.use = s.use := by rw [ht]
        have q2 : t.v = s.v := by rw [ht]
        have q3 : t.taken = s.taken := by rw [ht]
        exact ⟨by rw [q1]; exact (cell_set_off w sb _ _ _ (by omega)).trans S.use, by rw [q2]; exact (cell_set_off w sb _ _ _ (by omega)).trans S.v, by rw [q3]; exact (cell_set_off w sb _ _ _ (by omega)).trans S.taken, cell_set_at _ S.next⟩
    · simp only [List.getElem?_set_ne (Ne.symm e)] at h
      have S' := I.slot k' s' h
      exact ⟨(cell_set_off w sb _ _ _ (by omega)).trans S'.use, (cell_set_off w sb _ _ _ (by omega)).trans S'.v, (cell_set_off w sb _ _ _ (by omega)).trans S'.taken, (cell_set_off w sb _ _ _ (by omega)).trans S'.next⟩
  fza := fun o => (World.frozen?_setCell ..).trans (I.fza o)
  fzs := fun o => (World.frozen?_setCell ..).trans (I.fzs o)
  ne := I.ne
  lta := by simpa using I.lta
  lts := by simpa using I.lts

theorem IsAr.setUse {w : World} {ab sb cap : Nat} {A : Ar} (I : IsAr w ab sb cap A) {k : Nat} {s : Sl} (hs : A.sl[k]? = some s) (x : Int) :
    IsAr (w.setCell ⟨sb, k * 4, none⟩ (.int .i64 x)) ab sb cap { A with sl := A.sl.set k { s with use := x } } :=
  I.setSlot hs { s with use := x } 0 _ (by decide) (.inl ⟨rfl, rfl, rfl⟩)
theorem IsAr.setV {w : World} {ab sb cap : Nat} {A : Ar} (I : IsAr w ab sb cap A) {k : Nat} {s : Sl} (hs : A.sl[k]? = some s) (x : Int) :
    IsAr (w.setCell ⟨sb, k * 4 + 1, none⟩ (.int .i64 x)) ab sb cap { A with sl := A.sl.set k { s with v := x } } :=
  I.setSlot hs { s with v := x } 1 _ (by decide) (.inr (.inl ⟨rfl, rfl, rfl⟩))
theorem IsAr.setTk {w : World} {ab sb cap : Nat} {A : Ar} (I : IsAr w ab sb cap A) {k : Nat} {s : Sl} (hs : A.sl[k]? = some s) (x : Bool) :
    IsAr (w.setCell ⟨sb, k * 4 + 2, none⟩ (.bool x)) ab sb cap { A with sl := A.sl.set k { s with taken := x } } :=
  I.setSlot hs { s with taken := x } 2 _ (by decide) (.inr (.inr (.inl ⟨rfl, rfl, rfl⟩)))
theorem IsAr.setNext {w : World} {ab sb cap : Nat} {A : Ar} (I : IsAr w ab sb cap A) {k : Nat} {s : Sl} (hs : A.sl[k]? = some s) (x : Int) :
    IsAr (w.setCell ⟨sb, k * 4 + 3, none⟩ (.int .i64 x)) ab sb cap { A with sl := A.sl.set k { s with next := x } } :=
  I.setSlot hs { s with next := x } 3 _ (by decide) (.inr (.inr (.inr ⟨rfl, rfl, rfl⟩)))

theorem set_at {l : List Sl} {k : Nat} {s : Sl} (h : l[k]? = some s) (t : Sl) : (l.set k t)[k]? = some t := by
  rw [List.getElem?_set_self (List.getElem?_eq_some_iff.1 h).1]

/-- A slot is filled: its four cells are stored. -/
theorem IsAr.filled {w : World} {ab sb cap : Nat} {A : Ar} (I : IsAr w ab sb cap A) {k : Nat} {s : Sl} (hs : A.sl[k]? = some s) (u v n : Int) (b : Bool) :
    IsAr ((((w.setCell ⟨sb, k * 4, none⟩ (.int .i64 u)).setCell ⟨sb, k * 4 + 1, none⟩ (.int .i64 v)).setCell ⟨sb, k * 4 + 2, none⟩ (.bool b)).setCell ⟨sb, k * 4 + 3, none⟩ (.int .i64 n)) ab sb cap
      { A with sl := A.sl.set k { use := u, v := v, taken := b, next := n } } := by
  have J := (((I.setUse hs u).setV (set_at hs _) v).setTk (set_at (set_at hs _) _) b).setNext (set_at (set_at (set_at hs _) _) _) n
  simpa using J
theorem Kept.filled {S : Nat → Prop} {w w' : World} (h : Kept S w w') (sb o1 o2 o3 o4 : Nat) (v1 v2 v3 v4 : Value) (hS : S sb) :
    Kept S w ((((w'.setCell ⟨sb, o1, none⟩ v1).setCell ⟨sb, o2, none⟩ v2).setCell ⟨sb, o3, none⟩ v3).setCell ⟨sb, o4, none⟩ v4) :=
  (((h.setCell ⟨sb, o1, none⟩ v1 (fun _ => hS)).setCell ⟨sb, o2, none⟩ v2 (fun _ => hS)).setCell ⟨sb, o3, none⟩ v3 (fun _ => hS)).setCell ⟨sb, o4, none⟩ v4 (fun _ => hS)
end Go.Proofs.Ytelgknecainlfaa

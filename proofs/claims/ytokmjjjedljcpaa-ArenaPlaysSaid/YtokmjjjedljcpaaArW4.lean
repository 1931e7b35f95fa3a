/- ArW4: texts for the statements of this seat: contracts of functions, walks, plain laws. Conditions: none. -/
import Derived.Test.YtokmjjjedljcpaaProg
import Derived.Deep.QuietTactic
import Derived.BigQuiet
import Derived.WalkKit
import Derived.WalkSpells
import Derived.WalkLawsBesides
import Derived.Test.YtokmjjjedljcpaaArModel
import Derived.Test.YtokmjjjedljcpaaArW1
import Derived.Test.YtokmjjjedljcpaaArW2
set_option linter.all false
namespace Go.Proofs.Ytokmjjjedljcpaa
open Go.RowKit

theorem Try.info68 : (Try.prog.info? 68).map (fun i => (i.zero, i.size, i.bytes)) = some (some (.agg #[.int .i64 0, .int .i64 0, .bool false, .int .i64 0]), 4, 32) := by kernel_rfl

set_option maxHeartbeats 400000 in
theorem room_c (ab sb cap : Nat) (A : Ar) (w : World) (I : IsAr w ab sb cap A) (ok : A.Ok) :
    Calls Try.prog 14 #[.pointer (some ⟨ab, 0, none⟩)] w fun e w' => e = .returned (.int .i64 (A.sl.length - A.taken - A.lost)) ∧ ∃ n, w' = w.drewN n := by
  have c1 := I.slots
  have c4 := I.taken
  have c5 := I.lost
  obtain ⟨ht1, ht2⟩ := ok.tk
  obtain ⟨hl1, hl2⟩ := ok.lo
  have hm := ok.len
  clear I ok
  go_enter Try.func14, Try.ntmps14
  go_wp2
  go_quiet (fail)
  go_wp2
  go_ret
  exact ⟨rfl, _, rfl⟩

set_option maxHeartbeats 400000 in
theorem new_no (n : Int) (w : World) (h : n < 0 ∨ 4096 < n) :
    Calls Try.prog 10 #[.int .i64 n] w fun e w' => e = .returned (.tuple #[.pointer none, .int .i64 2]) ∧ w = w' := by
  rcases h with h | h
  · go_enter Try.func10, Try.ntmps10
    go_wp2
    go_ret2
    exact ⟨rfl, rfl⟩
  · have : ¬ n < 0 := by omega
    go_enter Try.func10, Try.ntmps10
    go_wp2
    go_ret2
    exact ⟨rfl, rfl⟩

theorem madeCells_get (z : Array Value) (n i : Nat) (h : i < n) : (madeCells z n)[i]? = some (z[i % z.size]!) := by
  simp [madeCells, h]

theorem new_shut (w : World) (n : Nat) (C : Array Value) (hC : madeCells #[.int .i64 0, .int .i64 0, .bool false, .int .i64 0] (n * 4) = C) :
    IsAr ((w.alloc (.cells C 68)).alloc (.cells #[.bool true, .slice (some ⟨w.heap.size, 0, none⟩) n n, .int .i64 (-1), .int .i64 0, .int .i64 0, .int .i64 0] 45)) (w.heap.size + 1) w.heap.size n (Ar.empty n) where
  made := by rw [World.cell?_alloc_at _ _ _ _ (by simp)]; rfl
  slots := by rw [World.cell?_alloc_at _ _ _ _ (by simp)]; simp [Ar.empty]
  freed := by rw [World.cell?_alloc_at _ _ _ _ (by simp)]; rfl
  fresh := by rw [World.cell?_alloc_at _ _ _ _ (by simp)]; rfl
  taken := by rw [World.cell?_alloc_at _ _ _ _ (by simp)]; rfl
  lost := by rw [World.cell?_alloc_at _ _ _ _ (by simp)]; rfl
  slot := by
    intro k s h
    have hk : k < n := by
      have := (List.getElem?_eq_some_iff.1 h).1
      simpa [Ar.empty] using this
    simp only [Ar.empty, List.getElem?_replicate, hk, if_true] at h
    obtain rfl := Option.some.inj h
    have g : ∀ j, j < 4 → C[k * 4 + j]? = some ((#[.int .i64 0, .int .i64 0, .bool false, .int .i64 0] : Array Value)[(k * 4 + j) % 4]!) := fun j hj => by
      rw [← hC]; exact madeCells_get _ _ _ (by omega)
    have e : ∀ i, ((w.alloc (.cells C 68)).alloc (.cells #[.bool true, .slice (some ⟨w.heap.size, 0, none⟩) n n, .int .i64 (-1), .int .i64 0, .int .i64 0, .int .i64 0] 45)).cell? ⟨w.heap.size, i, none⟩ = C[i]? := fun i => by
      rw [World.cell?_alloc_past _ _ _ (by simp), World.cell?_alloc_at _ _ _ _ rfl]
    constructor
    · rw [e]; have := g 0 (by decide); rw [show (k * 4 + 0) % 4 = 0 from by omega] at this; exact this
    · rw [e, g 1 (by decide), show (k * 4 + 1) % 4 = 1 from by omega]; rfl
    · rw [e, g 2 (by decide), show (k * 4 + 2) % 4 = 2 from by omega]; rfl
    · rw [e, g 3 (by decide), show (k * 4 + 3) % 4 = 3 from by omega]; rfl
  fza := fun o => by rw [World.frozen?_alloc_at _ _ _ _ (by simp)]
  fzs := fun o => by rw [World.frozen?_alloc_past _ _ _ (by simp), World.frozen?_alloc_at _ _ _ _ rfl]
  ne := by omega
  lta := by simp
  lts := by simp; omega

set_option maxRecDepth 100000 in
set_option maxHeartbeats 400000 in
theorem new_yes (n : Nat) (w : World) (h : n ≤ 4096) :
    Calls Try.prog 10 #[.int .i64 n] w fun e w' => e = .returned (.tuple #[.pointer (some ⟨w.heap.size + 1, 0, none⟩), .int .i64 0]) ∧
      IsAr w' (w.heap.size + 1) w.heap.size n (Ar.empty n) ∧ Kept (fun _ => False) w w' := by
  obtain ⟨i0, hi, hz0, hz1, hz2⟩ := info_parts Try.info68
  have hmk : (Instr.makeSlice 43 (.int .i64 n) (.int .i64 n)).run Try.prog w = .ok (.slice (some ⟨w.heap.size, 0, none⟩) n n) (w.alloc (.cells (madeCells #[.int .i64 0, .int .i64 0, .bool false, .int .i64 0] (n * 4)) 68)) := by
    have := run_make (P := Try.prog) w 43 68 i0 _ Try.underlying43 hi hz0 .i64 .i64 n n (by omega) (by omega) (by rw [hz2]; omega) (by omega)
    simpa [hz1, Value.cells] using this
  generalize hC : madeCells #[.int .i64 0, .int .i64 0, .bool false, .int .i64 0] (n * 4) = C at hmk
  have HC := Lib.hid hC
  clear hC
  have h1 : ¬ (n : Int) < 0 := by omega
  have h2 : (n : Int) ≤ 4096 := by omega
  clear hi hz0 hz1 hz2
  go_enter Try.func10, Try.ntmps10
  go_wp2
  go_ret2
  refine ⟨rfl, new_shut w n C HC.out, ((Kept.refl _ w).alloc _).alloc _⟩

end Go.Proofs.Ytokmjjjedljcpaa

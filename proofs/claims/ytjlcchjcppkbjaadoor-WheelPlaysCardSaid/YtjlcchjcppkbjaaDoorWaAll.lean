/- WaAll: texts for the statements of this seat: contracts of functions, walks, plain laws. Conditions: none. -/
import Derived.Test.YtjlcchjcppkbjaaDoorProg
import Derived.WalkKit
import Derived.WalkSpells
import Derived.WalkLawsBesides
import Derived.Lib.Hide
import Derived.Deep.QuietTactic
import Derived.BigQuiet
import Derived.Test.YtjlcchjcppkbjaaDoorGeAll
set_option linter.all false

namespace Go.Proofs.YtjlcchjcppkbjaaDoor
open Go.RowKit

set_option maxHeartbeats 400000 in
theorem handle_c (ab sb cap n : Nat) (k u : Int) (w : World)
    (h1 : w.cell? ⟨ab, 1, none⟩ = some (.slice (some ⟨sb, 0, none⟩) n cap))
    (hk0 : 0 ≤ k) (hk : k < n) (hn : n ≤ 4096)
    (hu : w.cell? ⟨sb, k.toNat * 4, none⟩ = some (.int .i64 u)) (hu0 : 0 ≤ u) (hu1 : u ≤ 4294967297) :
    Calls Tryd.prog 60 #[.pointer (some ⟨ab, 0, none⟩), .int .i64 k] w fun e w' => e = .returned (.int .i64 (4096 * u + k)) ∧ w = w' := by
  go_enter Tryd.func60, Tryd.ntmps60
  go_wp2
  go_ret
  exact ⟨rfl, rfl⟩

set_option maxHeartbeats 400000 in
theorem find_some (ab sb cap : Nat) (A : Ar) (h : Int) (k : Nat) (s : Sl) (w : World) (I : IsAr w ab sb cap A) (hf : A.find h = some (k, s)) (ok : A.Ok) :
    Calls Tryd.prog 87 #[.pointer (some ⟨ab, 0, none⟩), .int .i64 h] w fun e w' => e = .returned (.tuple #[.int .i64 k, .bool true]) ∧ w = w' := by
  unfold Ar.find at hf
  split at hf
  · simp at hf
  rename_i h0
  split at hf
  · rename_i s' hs
    split at hf
    · rename_i hc
      simp at hf
      obtain ⟨rfl, rfl⟩ := hf
      obtain ⟨ht, he⟩ := hc
      have hl : (h % 4096).toNat < A.sl.length := by
        rcases Nat.lt_or_ge (h % 4096).toNat A.sl.length with q | q
        · exact q
        · simp [List.getElem?_eq_none q] at hs
      have S := I.slot _ _ hs
      have c1 := I.slots
      have c2 := S.use
      have c3 := S.taken
      rw [ht] at c3
      have hm := ok.len
      have hb := ok.use s' (List.mem_of_getElem? hs)
      obtain ⟨hb1, hb2⟩ := hb
      have e1 : ((4096 * s'.use + h % 4096) == h) = true := by simpa using he
      have e2 : ((h % 4096).toNat : Int) = h % 4096 := by omega
      have E2 := Lib.hid e2
      have hl2 : h % 4096 < A.sl.length := by omega
      clear he hs ht S I ok e2
      go_enter Tryd.func87, Tryd.ntmps87
      go_wp2_with (go_at_call 60; refine (handle_c _ _ _ _ _ _ _ c1 (by omega) (by omega) hm c2 hb1 (by omega)).mono ?_; rintro e w' ⟨rfl, rfl⟩)
      go_ret2
      refine ⟨?_, rfl⟩
      rw [E2.out]; rfl
    · simp at hf
  · simp at hf


set_option maxHeartbeats 400000 in
theorem find_none (ab sb cap : Nat) (A : Ar) (h : Int) (w : World) (I : IsAr w ab sb cap A) (hf : A.find h = none) (ok : A.Ok) (hh : h ≤ 9223372036854775807) :
    Calls Tryd.prog 87 #[.pointer (some ⟨ab, 0, none⟩), .int .i64 h] w fun e w' => (∃ k : Int, e = .returned (.tuple #[.int .i64 k, .bool false])) ∧ w = w' := by
  have c1 := I.slots
  have hm := ok.len
  by_cases h0 : h < 4096
  · go_enter Tryd.func87, Tryd.ntmps87
    go_wp2
    go_ret2
    exact ⟨⟨_, rfl⟩, rfl⟩
  · cases hs : A.sl[(h % 4096).toNat]? with
    | none =>
      have hl : ¬ h % 4096 < A.sl.length := by
        have := List.getElem?_eq_none_iff.1 hs; omega
      clear hs hf I ok
      go_enter Tryd.func87, Tryd.ntmps87
      go_wp2
      go_ret2
      exact ⟨⟨_, rfl⟩, rfl⟩
    | some s =>
      have hl : (h % 4096).toNat < A.sl.length := by
        rcases Nat.lt_or_ge (h % 4096).toNat A.sl.length with q | q
        · exact q
        · simp [List.getElem?_eq_none q] at hs
      have hl2 : h % 4096 < A.sl.length := by omega
      have S := I.slot _ _ hs
      have hb := ok.use s (List.mem_of_getElem? hs)
      obtain ⟨hb1, hb2⟩ := hb
      cases ht : s.taken with
      | false =>
        have c3 := S.taken
        rw [ht] at c3
        clear hs hf I ok S ht
        go_enter Tryd.func87, Tryd.ntmps87
        go_wp2
        go_ret2
        exact ⟨⟨_, rfl⟩, rfl⟩
      | true =>
        have c2 := S.use
        have c3 := S.taken
        rw [ht] at c3
        have e1 : ((4096 * s.use + h % 4096) == h) = false := by
          unfold Ar.find at hf
          simp [h0, hs, ht] at hf
          simpa using hf
        clear hs ht S I ok hf
        go_enter Tryd.func87, Tryd.ntmps87
        go_wp2_with (go_at_call 60; refine (handle_c _ _ _ _ _ _ _ c1 (by omega) (by omega) hm c2 hb1 (by omega)).mono ?_; rintro e w' ⟨rfl, rfl⟩)
        go_ret2
        exact ⟨⟨_, rfl⟩, rfl⟩

end Go.Proofs.YtjlcchjcppkbjaaDoor

namespace Go.Proofs.YtjlcchjcppkbjaaDoor
open Go.RowKit


set_option maxHeartbeats 400000 in
theorem put_freed (ab sb cap : Nat) (A : Ar) (v : Int) (k : Nat) (s : Sl) (w : World) (I : IsAr w ab sb cap A) (hf : A.freed = k) (hs : A.sl[k]? = some s) (ok : A.Ok) :
    Calls Tryd.prog 40 #[.pointer (some ⟨ab, 0, none⟩), .int .i64 v] w fun e w' => e = .returned (.tuple #[.int .i64 (4096 * (s.use + 1) + k), .int .i64 0]) ∧ 
      IsAr w' ab sb cap { A.fill k s v with freed := s.next } ∧ Kept (fun b => b = ab ∨ b = sb) w w' := by
  have hl : k < A.sl.length := by
    rcases Nat.lt_or_ge k A.sl.length with q | q
    · exact q
    · simp [List.getElem?_eq_none q] at hs
  have S := I.slot _ _ hs
  obtain ⟨hb1, hb2⟩ := ok.use s (List.mem_of_getElem? hs)
  obtain ⟨ht1, ht2⟩ := ok.tk
  have c0 := I.made
  have c1 := I.slots
  have c2 := I.freed
  have c4 := I.taken
  rw [hf] at c2
  have hm := ok.len
  have f1 := I.fza 2
  have f2 := I.fza 4
  have f3 := I.fzs (k * 4)
  have f4 := I.fzs (k * 4 + 1)
  have f5 := I.fzs (k * 4 + 2)
  have f6 := I.fzs (k * 4 + 3)
  have d1 := S.use
  have d2 := S.v
  have d3 := S.taken
  have d4 := S.next
  have hne := I.ne
  have hne' := I.ne.symm
  have HI := Lib.hid I
  have HS := Lib.hid hs
  have HF := Lib.hid hf
  clear I hs hf S ok
  go_enter Tryd.func40, Tryd.ntmps40
  go_wp2
  go_region
  go_wp2_with fail
  refine (handle_c ab sb cap A.sl.length k (s.use + 1) _ ?_ (by omega) (by omega) hm ?_ (by omega) (by omega)).mono ?_
  · go_simp
  · go_simp
  rintro e w' ⟨rfl, rfl⟩
  go_wp2
  go_ret2
  exact ⟨rfl, ((((HI.out.setFreed s.next).filled HS.out (s.use + 1) v (-1) true).setTaken (A.taken + 1)).drew),
    (((((Kept.refl _ w).setCell ⟨ab, 2, none⟩ _ (fun _ => .inl rfl)).filled sb _ _ _ _ _ _ _ _ (.inr rfl)).setCell ⟨ab, 4, none⟩ _ (fun _ => .inl rfl)).drew)⟩

end Go.Proofs.YtjlcchjcppkbjaaDoor

namespace Go.Proofs.YtjlcchjcppkbjaaDoor
open Go.RowKit

set_option maxHeartbeats 400000 in
theorem put_fresh (ab sb cap : Nat) (A : Ar) (v : Int) (k : Nat) (s : Sl) (w : World) (I : IsAr w ab sb cap A) (hq : A.freed < 0) (hf : A.fresh = k) (hs : A.sl[k]? = some s) (ok : A.Ok) :
    Calls Tryd.prog 40 #[.pointer (some ⟨ab, 0, none⟩), .int .i64 v] w fun e w' => e = .returned (.tuple #[.int .i64 (4096 * (s.use + 1) + k), .int .i64 0]) ∧ 
      IsAr w' ab sb cap { A.fill k s v with fresh := A.fresh + 1 } ∧ Kept (fun b => b = ab ∨ b = sb) w w' := by
  have hl : k < A.sl.length := by
    rcases Nat.lt_or_ge k A.sl.length with q | q
    · exact q
    · simp [List.getElem?_eq_none q] at hs
  have S := I.slot _ _ hs
  obtain ⟨hb1, hb2⟩ := ok.use s (List.mem_of_getElem? hs)
  obtain ⟨ht1, ht2⟩ := ok.tk
  have c0 := I.made
  have c1 := I.slots
  have c2 := I.freed
  have c3 := I.fresh
  have c4 := I.taken
  rw [hf] at c3
  have hm := ok.len
  have f1 := I.fza 3
  have f2 := I.fza 4
  have f3 := I.fzs (k * 4)
  have f4 := I.fzs (k * 4 + 1)
  have f5 := I.fzs (k * 4 + 2)
  have f6 := I.fzs (k * 4 + 3)
  have d1 := S.use
  have d2 := S.v
  have d3 := S.taken
  have d4 := S.next
  have hne := I.ne
  have hne' := I.ne.symm
  have HI := Lib.hid I
  have HS := Lib.hid hs
  have HF := Lib.hid hf
  clear I hs hf S ok
  go_enter Tryd.func40, Tryd.ntmps40
  go_wp2
  go_quiet (fail)
  go_wp2
  go_region
  go_wp2_with fail
  refine (handle_c ab sb cap A.sl.length k (s.use + 1) _ ?_ (by omega) (by omega) hm ?_ (by omega) (by omega)).mono ?_
  · go_simp
  · go_simp
  rintro e w' ⟨rfl, rfl⟩
  go_wp2
  go_ret2
  refine ⟨rfl, ?_⟩
  rw [HF.out]
  exact ⟨(((((HI.out.drewN nq).setFresh (k + 1)).filled HS.out (s.use + 1) v (-1) true).setTaken (A.taken + 1)).drew),
    ((((((Kept.refl _ w).drewN nq).setCell ⟨ab, 3, none⟩ _ (fun _ => .inl rfl)).filled sb _ _ _ _ _ _ _ _ (.inr rfl)).setCell ⟨ab, 4, none⟩ _ (fun _ => .inl rfl)).drew)⟩

set_option maxHeartbeats 400000 in
theorem put_full (ab sb cap : Nat) (A : Ar) (v : Int) (w : World) (I : IsAr w ab sb cap A) (hq : A.freed < 0) (hf : A.fresh = A.sl.length) (ok : A.Ok) :
    Calls Tryd.prog 40 #[.pointer (some ⟨ab, 0, none⟩), .int .i64 v] w fun e w' => e = .returned (.tuple #[.int .i64 0, .int .i64 4]) ∧ ∃ n, w' = w.drewN n := by
  have c0 := I.made
  have c1 := I.slots
  have c2 := I.freed
  have c3 := I.fresh
  rw [hf] at c3
  have hm := ok.len
  clear I hf ok
  go_enter Tryd.func40, Tryd.ntmps40
  go_wp2
  go_quiet (fail)
  go_wp2
  go_ret2
  exact ⟨rfl, _, rfl⟩

set_option maxHeartbeats 400000 in
theorem free_none (ab sb cap : Nat) (A : Ar) (h : Int) (w : World) (I : IsAr w ab sb cap A) (hf : A.find h = none) (ok : A.Ok) (hh : h ≤ 9223372036854775807) :
    Calls Tryd.prog 68 #[.pointer (some ⟨ab, 0, none⟩), .int .i64 h] w fun e w' => e = .returned (.int .i64 5) ∧ w = w' := by
  have c0 := I.made
  have C := find_none ab sb cap A h w I hf ok hh
  have HC := Lib.hid C
  clear I hf ok C
  go_enter Tryd.func68, Tryd.ntmps68
  go_wp2_with (go_at_call 87; refine HC.out.mono ?_; rintro e w' ⟨⟨k, rfl⟩, rfl⟩)
  go_ret
  exact ⟨rfl, rfl⟩

set_option maxHeartbeats 400000 in
theorem free_some (ab sb cap : Nat) (A : Ar) (h : Int) (k : Nat) (s : Sl) (w : World) (I : IsAr w ab sb cap A) (hf : A.find h = some (k, s)) (hs : A.sl[k]? = some s) (ok : A.Ok) (_ht : s.taken = true) (hu : (s.use == 2147483648) = false) :
    Calls Tryd.prog 68 #[.pointer (some ⟨ab, 0, none⟩), .int .i64 h] w fun e w' => e = .returned (.int .i64 0) ∧
      IsAr w' ab sb cap { A with sl := A.sl.set k { s with taken := false, next := A.freed }, taken := A.taken - 1, freed := k } ∧ Kept (fun b => b = ab ∨ b = sb) w w' := by
  have hl : k < A.sl.length := (List.getElem?_eq_some_iff.1 hs).1
  have S := I.slot _ _ hs
  obtain ⟨ht1, ht2⟩ := ok.tk
  have c0 := I.made
  have c1 := I.slots
  have c2 := I.freed
  have c4 := I.taken
  have hm := ok.len
  have f1 := I.fza 2
  have f2 := I.fza 4
  have f5 := I.fzs (k * 4 + 2)
  have f6 := I.fzs (k * 4 + 3)
  have d1 := S.use
  have d3 := S.taken
  have d4 := S.next
  have hne := I.ne
  have hne' := I.ne.symm
  have C := find_some ab sb cap A h k s w I hf ok
  have HC := Lib.hid C
  have HI := Lib.hid I
  have HS := Lib.hid hs
  clear I hf hs ok C S
  go_enter Tryd.func68, Tryd.ntmps68
  go_wp2_with (go_at_call 87; refine HC.out.mono ?_; rintro e w' ⟨rfl, rfl⟩)
  go_region
  go_wp2
  go_ret
  refine ⟨rfl, ?_⟩
  have J := (((((HI.out.setTk HS.out false).setTaken (A.taken - 1)).drew).setNext (set_at HS.out _) A.freed).setFreed k)
  simp only [List.set_set] at J
  exact ⟨J, ((((((Kept.refl _ w).setCell ⟨sb, k * 4 + 2, none⟩ _ (fun _ => .inr rfl)).setCell ⟨ab, 4, none⟩ _ (fun _ => .inl rfl)).drew).setCell ⟨sb, k * 4 + 3, none⟩ _ (fun _ => .inr rfl)).setCell ⟨ab, 2, none⟩ _ (fun _ => .inl rfl))⟩

set_option maxHeartbeats 400000 in
theorem free_worn (ab sb cap : Nat) (A : Ar) (h : Int) (k : Nat) (s : Sl) (w : World) (I : IsAr w ab sb cap A) (hf : A.find h = some (k, s)) (hs : A.sl[k]? = some s) (ok : A.Ok) (_ht : s.taken = true) (hu : s.use = 2147483648) :
    Calls Tryd.prog 68 #[.pointer (some ⟨ab, 0, none⟩), .int .i64 h] w fun e w' => e = .returned (.int .i64 0) ∧
      IsAr w' ab sb cap { A with sl := A.sl.set k { s with taken := false }, taken := A.taken - 1, lost := A.lost + 1 } ∧ Kept (fun b => b = ab ∨ b = sb) w w' := by
  have hl : k < A.sl.length := (List.getElem?_eq_some_iff.1 hs).1
  have S := I.slot _ _ hs
  obtain ⟨ht1, ht2⟩ := ok.tk
  obtain ⟨hl1, hl2⟩ := ok.lo
  have c0 := I.made
  have c1 := I.slots
  have c2 := I.freed
  have c4 := I.taken
  have c5 := I.lost
  have hm := ok.len
  have f1 := I.fza 5
  have f2 := I.fza 4
  have f5 := I.fzs (k * 4 + 2)
  have d1 := S.use
  rw [hu] at d1
  have d3 := S.taken
  have hne := I.ne
  have hne' := I.ne.symm
  have C := find_some ab sb cap A h k s w I hf ok
  have HC := Lib.hid C
  have HI := Lib.hid I
  have HS := Lib.hid hs
  clear I hf hs ok C S hu
  go_enter Tryd.func68, Tryd.ntmps68
  go_wp2_with (go_at_call 87; refine HC.out.mono ?_; rintro e w' ⟨rfl, rfl⟩)
  go_ret
  refine ⟨rfl, (((HI.out.setTk HS.out false).setTaken (A.taken - 1)).setLost (A.lost + 1)), ((((Kept.refl _ w).setCell ⟨sb, k * 4 + 2, none⟩ _ (fun _ => .inr rfl)).setCell ⟨ab, 4, none⟩ _ (fun _ => .inl rfl)).setCell ⟨ab, 5, none⟩ _ (fun _ => .inl rfl))⟩

end Go.Proofs.YtjlcchjcppkbjaaDoor

namespace Go.Proofs.YtjlcchjcppkbjaaDoor
open Go.RowKit

theorem Tryd.info68 : (Tryd.prog.info? 121).map (fun i => (i.zero, i.size, i.bytes)) = some (some (.agg #[.int .i64 0, .int .i64 0, .bool false, .int .i64 0]), 4, 32) := by kernel_rfl

set_option maxHeartbeats 400000 in
theorem room_c (ab sb cap : Nat) (A : Ar) (w : World) (I : IsAr w ab sb cap A) (ok : A.Ok) :
    Calls Tryd.prog 50 #[.pointer (some ⟨ab, 0, none⟩)] w fun e w' => e = .returned (.int .i64 (A.sl.length - A.taken - A.lost)) ∧ ∃ n, w' = w.drewN n := by
  have c1 := I.slots
  have c4 := I.taken
  have c5 := I.lost
  obtain ⟨ht1, ht2⟩ := ok.tk
  obtain ⟨hl1, hl2⟩ := ok.lo
  have hm := ok.len
  clear I ok
  go_enter Tryd.func50, Tryd.ntmps50
  go_wp2
  go_quiet (fail)
  go_wp2
  go_ret
  exact ⟨rfl, _, rfl⟩

set_option maxHeartbeats 400000 in
theorem new_no (n : Int) (w : World) (h : n < 0 ∨ 4096 < n) :
    Calls Tryd.prog 38 #[.int .i64 n] w fun e w' => e = .returned (.tuple #[.pointer none, .int .i64 2]) ∧ w = w' := by
  rcases h with h | h
  · go_enter Tryd.func38, Tryd.ntmps38
    go_wp2
    go_ret2
    exact ⟨rfl, rfl⟩
  · have : ¬ n < 0 := by omega
    go_enter Tryd.func38, Tryd.ntmps38
    go_wp2
    go_ret2
    exact ⟨rfl, rfl⟩

theorem madeCells_get (z : Array Value) (n i : Nat) (h : i < n) : (madeCells z n)[i]? = some (z[i % z.size]!) := by
  simp [madeCells, h]

theorem new_shut (w : World) (n : Nat) (C : Array Value) (hC : madeCells #[.int .i64 0, .int .i64 0, .bool false, .int .i64 0] (n * 4) = C) :
    IsAr ((w.alloc (.cells C 121)).alloc (.cells #[.bool true, .slice (some ⟨w.heap.size, 0, none⟩) n n, .int .i64 (-1), .int .i64 0, .int .i64 0, .int .i64 0] 119)) (w.heap.size + 1) w.heap.size n (Ar.empty n) where
  made := by rw [World.cell?_alloc_at _ _ _ _ (by simp)]; rfl
  slots := by rw [World.cell?_alloc_at _ _ _ _ (by simp)]; simp [Ar.empty]
  freed := by rw [World.cell?_alloc_at _ _ _ _ (by simp)]; rfl
  fresh := by rw [World.cell?_alloc_at _ _ _ _ (by simp)]; rfl
  taken := by rw [World.cell?_alloc_at _ _ _ _ (by simp)]; rfl
  lost := by rw [World.cell?_alloc_at _ _ _ _ (by simp)]; rfl
  slot := by
    intro k s h
    have hk : k < n := by
      have := (List.getElem?_eq_some_iff.1 h).1
      simpa [Ar.empty] using this
    simp only [Ar.empty, List.getElem?_replicate, hk, if_true] at h
    obtain rfl := Option.some.inj h
    have g : ∀ j, j < 4 → C[k * 4 + j]? = some ((#[.int .i64 0, .int .i64 0, .bool false, .int .i64 0] : Array Value)[(k * 4 + j) % 4]!) := fun j hj => by
      rw [← hC]; exact madeCells_get _ _ _ (by omega)
    have e : ∀ i, ((w.alloc (.cells C 121)).alloc (.cells #[.bool true, .slice (some ⟨w.heap.size, 0, none⟩) n n, .int .i64 (-1), .int .i64 0, .int .i64 0, .int .i64 0] 119)).cell? ⟨w.heap.size, i, none⟩ = C[i]? := fun i => by
      rw [World.cell?_alloc_past _ _ _ (by simp), World.cell?_alloc_at _ _ _ _ rfl]
    constructor
    · rw [e]; have := g 0 (by decide); rw [show (k * 4 + 0) % 4 = 0 from by omega] at this; exact this
    · rw [e, g 1 (by decide), show (k * 4 + 1) % 4 = 1 from by omega]; rfl
    · rw [e, g 2 (by decide), show (k * 4 + 2) % 4 = 2 from by omega]; rfl
    · rw [e, g 3 (by decide), show (k * 4 + 3) % 4 = 3 from by omega]; rfl
  fza := fun o => by rw [World.frozen?_alloc_at _ _ _ _ (by simp)]
  fzs := fun o => by rw [World.frozen?_alloc_past _ _ _ (by simp), World.frozen?_alloc_at _ _ _ _ rfl]
  ne := by omega
  lta := by simp
  lts := by simp; omega

set_option maxRecDepth 100000 in
set_option maxHeartbeats 400000 in
theorem new_yes (n : Nat) (w : World) (h : n ≤ 4096) :
    Calls Tryd.prog 38 #[.int .i64 n] w fun e w' => e = .returned (.tuple #[.pointer (some ⟨w.heap.size + 1, 0, none⟩), .int .i64 0]) ∧
      IsAr w' (w.heap.size + 1) w.heap.size n (Ar.empty n) ∧ Kept (fun _ => False) w w' := by
  obtain ⟨i0, hi, hz0, hz1, hz2⟩ := info_parts Tryd.info68
  have hmk : (Instr.makeSlice 117 (.int .i64 n) (.int .i64 n)).run Tryd.prog w = .ok (.slice (some ⟨w.heap.size, 0, none⟩) n n) (w.alloc (.cells (madeCells #[.int .i64 0, .int .i64 0, .bool false, .int .i64 0] (n * 4)) 121)) := by
    have := run_make (P := Tryd.prog) w 117 121 i0 _ Tryd.underlying117 hi hz0 .i64 .i64 n n (by omega) (by omega) (by rw [hz2]; omega) (by omega)
    simpa [hz1, Value.cells] using this
  generalize hC : madeCells #[.int .i64 0, .int .i64 0, .bool false, .int .i64 0] (n * 4) = C at hmk
  have HC := Lib.hid hC
  clear hC
  have h1 : ¬ (n : Int) < 0 := by omega
  have h2 : (n : Int) ≤ 4096 := by omega
  clear hi hz0 hz1 hz2
  go_enter Tryd.func38, Tryd.ntmps38
  go_wp2
  go_ret2
  refine ⟨rfl, new_shut w n C HC.out, ((Kept.refl _ w).alloc _).alloc _⟩

end Go.Proofs.YtjlcchjcppkbjaaDoor

namespace Go.Proofs.YtjlcchjcppkbjaaDoor
open Go.RowKit

theorem put_c {ab sb cap : Nat} {A A' : Ar} {v h er : Int} {w : World} (I : IsAr w ab sb cap A) (ok : A.Ok) (hp : A.put v = (A', h, er)) :
    Calls Tryd.prog 40 #[.pointer (some ⟨ab, 0, none⟩), .int .i64 v] w fun e w' => e = .returned (.tuple #[.int .i64 h, .int .i64 er]) ∧
      IsAr w' ab sb cap A' ∧ Kept (fun b => b = ab ∨ b = sb) w w' := by
  unfold Ar.put at hp
  split at hp
  · rename_i h0
    have hl := ok.fd1
    obtain ⟨s, hs⟩ : ∃ s, A.sl[A.freed.toNat]? = some s := ⟨_, List.getElem?_eq_getElem (by omega)⟩
    rw [hs] at hp
    simp only [Prod.mk.injEq] at hp
    obtain ⟨rfl, rfl, rfl⟩ := hp
    have hf : A.freed = (A.freed.toNat : Int) := by omega
    have C := put_freed ab sb cap A v A.freed.toNat s w I hf hs ok
    rw [← hf] at C
    exact C
  · rename_i h0
    cases hs : A.sl[A.fresh.toNat]? with
    | some s =>
      rw [hs] at hp
      simp only [Prod.mk.injEq] at hp
      obtain ⟨rfl, rfl, rfl⟩ := hp
      have hf : A.fresh = (A.fresh.toNat : Int) := by have := ok.fr0; omega
      have C := put_fresh ab sb cap A v A.fresh.toNat s w I (by omega) hf hs ok
      rw [← hf] at C
      exact C
    | none =>
      rw [hs] at hp
      simp only [Prod.mk.injEq] at hp
      obtain ⟨rfl, rfl, rfl⟩ := hp
      have hl := List.getElem?_eq_none_iff.1 hs
      have hf : A.fresh = A.sl.length := by have := ok.fr0; have := ok.fr1; omega
      refine (put_full ab sb cap A v w I (by omega) hf ok).mono ?_
      rintro e w' ⟨rfl, n, rfl⟩
      exact ⟨rfl, I.drewN n, (Kept.refl _ w).drewN n⟩

theorem free_c {ab sb cap : Nat} {A A' : Ar} {h er : Int} {w : World} (I : IsAr w ab sb cap A) (ok : A.Ok) (hh : h ≤ 9223372036854775807) (hp : A.free h = (A', er)) :
    Calls Tryd.prog 68 #[.pointer (some ⟨ab, 0, none⟩), .int .i64 h] w fun e w' => e = .returned (.int .i64 er) ∧ IsAr w' ab sb cap A' ∧ Kept (fun b => b = ab ∨ b = sb) w w' := by
  unfold Ar.free at hp
  split at hp
  · rename_i k s hf
    obtain ⟨-, -, hs, ht, -⟩ := Ar.find_spec hf
    split at hp
    · rename_i hu
      simp only [Prod.mk.injEq] at hp
      obtain ⟨rfl, rfl⟩ := hp
      exact free_worn ab sb cap A h k s w I hf hs ok ht hu
    · rename_i hu
      simp only [Prod.mk.injEq] at hp
      obtain ⟨rfl, rfl⟩ := hp
      exact free_some ab sb cap A h k s w I hf hs ok ht (by simpa using hu)
  · rename_i hf
    simp only [Prod.mk.injEq] at hp
    obtain ⟨rfl, rfl⟩ := hp
    refine (free_none ab sb cap A h w I hf ok hh).mono ?_
    rintro e w' ⟨rfl, rfl⟩
    exact ⟨rfl, I, Kept.refl _ _⟩

end Go.Proofs.YtjlcchjcppkbjaaDoor

namespace Go.Proofs.YtjlcchjcppkbjaaDoor
open Go.RowKit

/-- In the world w the blocks ab and sb hold an arena that stands for a. -/
def IsA (w : World) (ab sb cap : Nat) (a : AA) : Prop := ∃ A, IsAr w ab sb cap A ∧ Rep A a

theorem IsA.kept {S : Nat → Prop} {w w' : World} {ab sb cap : Nat} {a : AA} (I : IsA w ab sb cap a) (h : Kept S w w') (ha : ¬ S ab) (hs : ¬ S sb) : IsA w' ab sb cap a :=
  let ⟨A, i, r⟩ := I; ⟨A, i.kept h ha hs, r⟩
theorem IsA.lta {w : World} {ab sb cap : Nat} {a : AA} (I : IsA w ab sb cap a) : ab < w.heap.size := let ⟨_, i, _⟩ := I; i.lta
theorem IsA.lts {w : World} {ab sb cap : Nat} {a : AA} (I : IsA w ab sb cap a) : sb < w.heap.size := let ⟨_, i, _⟩ := I; i.lts

theorem new_a (n : Int) (w : World) (h0 : 0 ≤ n) (h : n ≤ 4096) :
    Calls Tryd.prog 38 #[.int .i64 n] w fun e w' => e = .returned (.tuple #[.pointer (some ⟨w.heap.size + 1, 0, none⟩), .int .i64 0]) ∧
      IsA w' (w.heap.size + 1) w.heap.size n.toNat (AA.empty n.toNat) ∧ Kept (fun _ => False) w w' := by
  obtain ⟨n, rfl⟩ := Int.eq_ofNat_of_zero_le h0
  rw [Int.toNat_natCast]
  refine (new_yes n w (by omega)).mono ?_
  rintro e w' ⟨rfl, i, k⟩
  exact ⟨rfl, ⟨_, i, Rep.empty (by omega)⟩, k⟩

theorem put_a {ab sb cap : Nat} {a a' : AA} {v h er : Int} {w : World} (I : IsA w ab sb cap a) (hp : a.put v = (a', h, er)) :
    Calls Tryd.prog 40 #[.pointer (some ⟨ab, 0, none⟩), .int .i64 v] w fun e w' => e = .returned (.tuple #[.int .i64 h, .int .i64 er]) ∧
      IsA w' ab sb cap a' ∧ Kept (fun b => b = ab ∨ b = sb) w w' := by
  obtain ⟨A, i, r⟩ := I
  obtain ⟨A', hp', r'⟩ := r.put v hp
  refine (put_c i r.ok hp').mono ?_
  rintro e w' ⟨rfl, i', k⟩
  exact ⟨rfl, ⟨_, i', r'⟩, k⟩

theorem free_a {ab sb cap : Nat} {a a' : AA} {h er : Int} {w : World} (I : IsA w ab sb cap a) (hh : h ≤ 9223372036854775807) (hp : a.free h = (a', er)) :
    Calls Tryd.prog 68 #[.pointer (some ⟨ab, 0, none⟩), .int .i64 h] w fun e w' => e = .returned (.int .i64 er) ∧ IsA w' ab sb cap a' ∧ Kept (fun b => b = ab ∨ b = sb) w w' := by
  obtain ⟨A, i, r⟩ := I
  obtain ⟨A', hp', r'⟩ := r.free h hp
  refine (free_c i r.ok hh hp').mono ?_
  rintro e w' ⟨rfl, i', k⟩
  exact ⟨rfl, ⟨_, i', r'⟩, k⟩

theorem room_a {ab sb cap : Nat} {a : AA} {n : Int} {w : World} (I : IsA w ab sb cap a) (hp : (a.room : Int) = n) :
    Calls Tryd.prog 50 #[.pointer (some ⟨ab, 0, none⟩)] w fun e w' => e = .returned (.int .i64 n) ∧ IsA w' ab sb cap a ∧ Kept (fun _ => False) w w' := by
  obtain ⟨A, i, r⟩ := I
  rw [← hp, ← r.roomEq]
  refine (room_c ab sb cap A w i r.ok).mono ?_
  rintro e w' ⟨rfl, n, rfl⟩
  exact ⟨rfl, ⟨A, i.drewN n, r⟩, (Kept.refl _ w).drewN n⟩

end Go.Proofs.YtjlcchjcppkbjaaDoor

namespace Go.Proofs.YtjlcchjcppkbjaaDoor
open Go.RowKit

theorem Tryd.info68' : (Tryd.prog.info? 121).map (fun i => (i.zero, i.size, i.bytes)) = some (some (.agg #[.int .i64 0, .int .i64 0, .bool false, .int .i64 0]), 4, 32) := by kernel_rfl
theorem el43 : ElemOk Tryd.prog 117 121 4 32 := .mk' Tryd.underlying117 Tryd.info68' rfl (by decide)

/-- The cells of slots. -/
def slotCells (sl : List Sl) : List Value := sl.flatMap fun s => [.int .i64 s.use, .int .i64 s.v, .bool s.taken, .int .i64 s.next]
theorem slotCells_length (sl : List Sl) : (slotCells sl).length = sl.length * 4 := by
  induction sl with
  | nil => rfl
  | cons s l ih => simp only [slotCells, List.flatMap_cons, List.length_append, List.length_cons] at ih ⊢; rw [ih]; simp; omega
theorem slotCells_get {sl : List Sl} {k : Nat} {s : Sl} (h : sl[k]? = some s) :
    (slotCells sl)[k * 4]? = some (.int .i64 s.use) ∧ (slotCells sl)[k * 4 + 1]? = some (.int .i64 s.v) ∧ (slotCells sl)[k * 4 + 2]? = some (.bool s.taken) ∧ (slotCells sl)[k * 4 + 3]? = some (.int .i64 s.next) := by
  induction sl generalizing k with
  | nil => simp at h
  | cons t l ih =>
    have e : slotCells (t :: l) = [.int .i64 t.use, .int .i64 t.v, .bool t.taken, .int .i64 t.next] ++ slotCells l := rfl
    cases k with
    | zero => simp at h; subst h; rw [e]; exact ⟨rfl, rfl, rfl, rfl⟩
    | succ k =>
      have := ih (k := k) (by simpa using h)
      rw [e, List.getElem?_append_right (by simp; omega), List.getElem?_append_right (by simp; omega), List.getElem?_append_right (by simp; omega), List.getElem?_append_right (by simp; omega)]
      simp only [List.length_cons, List.length_nil]
      rw [show (k + 1) * 4 - (0 + 1 + 1 + 1 + 1) = k * 4 from by omega, show (k + 1) * 4 + 1 - (0 + 1 + 1 + 1 + 1) = k * 4 + 1 from by omega,
        show (k + 1) * 4 + 2 - (0 + 1 + 1 + 1 + 1) = k * 4 + 2 from by omega, show (k + 1) * 4 + 3 - (0 + 1 + 1 + 1 + 1) = k * 4 + 3 from by omega]
      exact this
theorem slotCells_at {w : World} {ab sb cap : Nat} {A : Ar} (I : IsAr w ab sb cap A) {j : Nat} {u : Value} (h : (slotCells A.sl)[j]? = some u) : w.cell? ⟨sb, j, none⟩ = some u := by
  have hj : j < A.sl.length * 4 := by rw [← slotCells_length]; exact (List.getElem?_eq_some_iff.1 h).1
  have hs : A.sl[j / 4]? = some A.sl[j / 4] := List.getElem?_eq_getElem (by omega)
  have g := slotCells_get hs
  have S := I.slot _ _ hs
  rcases (by omega : j = j / 4 * 4 ∨ j = j / 4 * 4 + 1 ∨ j = j / 4 * 4 + 2 ∨ j = j / 4 * 4 + 3) with e | e | e | e
  · rw [e, g.1] at h; rw [e, S.use]; exact h
  · rw [e, g.2.1] at h; rw [e, S.v]; exact h
  · rw [e, g.2.2.1] at h; rw [e, S.taken]; exact h
  · rw [e, g.2.2.2] at h; rw [e, S.next]; exact h
theorem slotCells_one (sl : List Sl) : ∀ u ∈ slotCells sl, u.oneCell' = true := by
  intro u hu
  simp only [slotCells, List.mem_flatMap] at hu
  obtain ⟨s, -, hs⟩ := hu
  simp at hs
  rcases hs with rfl | rfl | rfl | rfl <;> rfl

/-- Clone of the slots: a row of its own. -/
def ClonePost (W0 : World) (A : Ar) (e : Ending) (W' : World) : Prop := ∃ g cap, e = .returned (.slice (some ⟨g, 0, none⟩) A.sl.length cap) ∧ W'.ownsRow W0.heap.size 121 4 (.slice (some ⟨g, 0, none⟩) A.sl.length cap) A.sl.length (slotCells A.sl) ∧ Kept (fun _ => False) W0 W'

set_option maxRecDepth 100000 in
set_option maxHeartbeats 400000 in
theorem clone_c (ab sb cap : Nat) (A : Ar) (ok : A.Ok) (w : World) (I : IsAr w ab sb cap A) :
    Calls Tryd.prog 70 #[.slice (some ⟨sb, 0, none⟩) A.sl.length cap] w (ClonePost w A) := by
  obtain ⟨i, z, hi, hz, hsz, hby, hzs⟩ := el43.info
  have hm := ok.len
  have hnil := fun (w : World) (a : Option Addr) (n c : Nat) => Lib.run_eql_slice_nil (P := Tryd.prog) w 117 121 a n c 0 0 Tryd.underlying117
  go_enter Tryd.func70, Tryd.ntmps70
  go_wp2_with (at_builtin; refine wpList_append_own _ rfl _ _ 117 rfl w.heap.size 121 i z 4 32 Tryd.underlying117 hi hz hsz hby hzs (by decide) _ 0 [] rfl ?c0 ⟨sb, 0, none⟩ A.sl.length cap (slotCells A.sl) rfl (slotCells_length _) ?c1 (slotCells_one _) ?c3 ?c4 ?c5 ?_)
  case c0 => exact World.ownsRow_lit w #[] 0 (Nat.le_refl _) (by decide) rfl
  case c1 =>
    intro j u h
    have : (⟨sb, 0, none⟩ : Addr).add j = ⟨sb, j, none⟩ := by unfold Addr.add; split <;> simp_all
    rw [this, World.cell?_alloc_past _ _ _ I.lts]
    exact slotCells_at I h
  case c3 => unfold maxLen; omega
  case c4 => omega
  case c5 => simp
  intro v' w' hown hg hn
  have hex : ∃ g c, v' = .slice (some ⟨g, 0, none⟩) A.sl.length c := by
    rcases hown.2 with ⟨h, -⟩ | ⟨g, c, cur, hv, -⟩
    · exact absurd h hn
    · exact ⟨g, c, hv⟩
  obtain ⟨g, c, rfl⟩ := hex
  have K : Kept (fun _ => False) w w' := ((Kept.refl (fun _ => False) w).alloc _).trans (Kept.of_grown hg) (fun i hi h => by simp [Value.ownBlock] at h; omega)
  clear hg hn
  go_wp2
  go_ret
  exact ⟨g, c, rfl, hown, K⟩

/-- The slots of an arena in a row of their own. -/
theorem slotAt_own {w : World} {base g cap : Nat} {sl : List Sl} (h : w.ownsRow base 121 4 (.slice (some ⟨g, 0, none⟩) sl.length cap) sl.length (slotCells sl)) {k : Nat} {s : Sl} (hs : sl[k]? = some s) : SlAt w g k s := by
  have hl := (List.getElem?_eq_some_iff.1 hs).1
  have q := slotCells_get hs
  exact ⟨(h.cellAt _ (by omega)).trans q.1, (h.cellAt _ (by omega)).trans q.2.1, (h.cellAt _ (by omega)).trans q.2.2.1, (h.cellAt _ (by omega)).trans q.2.2.2⟩

/-- Copy. -/
def CopyPost (W0 : World) (A : Ar) (e : Ending) (W' : World) : Prop := ∃ cb sb cap, e = .returned (.pointer (some ⟨cb, 0, none⟩)) ∧ IsAr W' cb sb cap A ∧ Kept (fun _ => False) W0 W' ∧ W0.heap.size ≤ cb ∧ W0.heap.size ≤ sb

set_option maxRecDepth 100000 in
set_option maxHeartbeats 400000 in
theorem copy_c (ab sb cap : Nat) (A : Ar) (ok : A.Ok) (w : World) (I : IsAr w ab sb cap A) :
    Calls Tryd.prog 53 #[.pointer (some ⟨ab, 0, none⟩)] w (CopyPost w A) := by
  have c0 := I.made
  have c1 := I.slots
  have c2 := I.freed
  have c3 := I.fresh
  have c4 := I.taken
  have c5 := I.lost
  have la := I.lta
  have I0 : IsAr (w.alloc (.cells #[.bool true, .slice (some ⟨sb, 0, none⟩) A.sl.length cap, .int .i64 A.freed, .int .i64 A.fresh, .int .i64 A.taken, .int .i64 A.lost] 119)) ab sb cap A :=
    I.kept ((Kept.refl (fun _ => False) w).alloc _) (fun h => h) (fun h => h)
  have HC := Lib.hid (clone_c ab sb cap A ok _ I0)
  clear I I0
  go_enter Tryd.func53, Tryd.ntmps53
  go_wp2_with fail
  refine HC.out.mono ?_
  rintro e w2 ⟨g, c, rfl, hown, K2⟩
  have hlt : w.heap.size < (w.alloc (.cells #[.bool true, .slice (some ⟨sb, 0, none⟩) A.sl.length cap, .int .i64 A.freed, .int .i64 A.fresh, .int .i64 A.taken, .int .i64 A.lost] 119)).heap.size := by simp
  have e0 : ∀ j, w2.cell? ⟨w.heap.size, j, none⟩ = (#[.bool true, .slice (some ⟨sb, 0, none⟩) A.sl.length cap, .int .i64 A.freed, .int .i64 A.fresh, .int .i64 A.taken, .int .i64 A.lost] : Array Value)[j]? := fun j => by
    rw [K2.cell (a := ⟨w.heap.size, j, none⟩) hlt (fun h => h), World.cell?_alloc_at _ _ _ _ rfl]
  have f0 : ∀ j, w2.frozen? ⟨w.heap.size, j, none⟩ = false := fun j => by
    rw [K2.frozen (a := ⟨w.heap.size, j, none⟩) hlt (fun h => h), World.frozen?_alloc_at _ _ _ _ rfl]
  have d1 := e0 1
  have g1 := f0 1
  have hgb := ownsRow_block hown (b := g) rfl
  rw [World.size_alloc] at hgb
  have FIN : Hid (CopyPost w A (.returned (.pointer (some ⟨w.heap.size, 0, none⟩))) (w2.setCell ⟨w.heap.size, 1, none⟩ (.slice (some ⟨g, 0, none⟩) A.sl.length c))) := by
    refine ⟨w.heap.size, g, c, rfl, ?_, (((Kept.refl (fun _ => False) w).alloc _).trans K2 (fun _ _ h => h)).setCell _ _ (fun h => by simp at h), Nat.le_refl _, by omega⟩
    exact {
      made := (cell_set_off _ _ _ 0 _ (by decide)).trans (e0 0)
      slots := cell_set_at _ (e0 1)
      freed := (cell_set_off _ _ _ 2 _ (by decide)).trans (e0 2)
      fresh := (cell_set_off _ _ _ 3 _ (by decide)).trans (e0 3)
      taken := (cell_set_off _ _ _ 4 _ (by decide)).trans (e0 4)
      lost := (cell_set_off _ _ _ 5 _ (by decide)).trans (e0 5)
      slot := fun k s hs => (slotAt_own hown hs).other _ _ (by simp; omega)
      fza := fun o => (World.frozen?_setCell ..).trans (f0 o)
      fzs := fun o => by
        refine (World.frozen?_setCell ..).trans ?_
        exact hown.frozenAt o
      ne := by omega
      lta := by have := K2.size; simp at this ⊢; omega
      lts := by simpa using hgb.2 }
  clear hown K2 e0 f0 HC hgb
  go_wp2
  go_ret
  exact FIN.out

def CopiesAt (W0 : World) (a : AA) (e : Ending) (W' : World) : Prop := ∃ cb sb cap, e = .returned (.pointer (some ⟨cb, 0, none⟩)) ∧ IsA W' cb sb cap a ∧ Kept (fun _ => False) W0 W' ∧ W0.heap.size ≤ cb ∧ W0.heap.size ≤ sb
theorem copy_a {ab sb cap : Nat} {a : AA} {w : World} (I : IsA w ab sb cap a) : Calls Tryd.prog 53 #[.pointer (some ⟨ab, 0, none⟩)] w (CopiesAt w a) := by
  obtain ⟨A, i, r⟩ := I
  refine (copy_c ab sb cap A r.ok w i).mono ?_
  rintro e w' ⟨cb, sb', cap', rfl, i', k, h⟩
  exact ⟨cb, sb', cap', rfl, ⟨A, i', r⟩, k, h⟩
end Go.Proofs.YtjlcchjcppkbjaaDoor

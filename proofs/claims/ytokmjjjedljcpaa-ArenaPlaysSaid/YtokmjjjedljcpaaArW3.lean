/- ArW3: texts for the statements of this seat: contracts of functions, walks, plain laws. Conditions: none. -/
import Derived.Test.YtokmjjjedljcpaaProg
import Derived.Deep.QuietTactic
import Derived.BigQuiet
import Derived.WalkKit
import Derived.WalkSpells
import Derived.WalkLawsBesides
import Derived.Test.YtokmjjjedljcpaaArModel
import Derived.Test.YtokmjjjedljcpaaArW1
import Derived.Test.YtokmjjjedljcpaaArW2
set_option linter.all false
namespace Go.Proofs.Ytokmjjjedljcpaa
open Go.RowKit

set_option maxHeartbeats 400000 in
theorem put_fresh (ab sb cap : Nat) (A : Ar) (v : Int) (k : Nat) (s : Sl) (w : World) (I : IsAr w ab sb cap A) (hq : A.freed < 0) (hf : A.fresh = k) (hs : A.sl[k]? = some s) (ok : A.Ok) :
    Calls Try.prog 11 #[.pointer (some ⟨ab, 0, none⟩), .int .i64 v] w fun e w' => e = .returned (.tuple #[.int .i64 (4096 * (s.use + 1) + k), .int .i64 0]) ∧ 
      IsAr w' ab sb cap { A.fill k s v with fresh := A.fresh + 1 } ∧ Kept (fun b => b = ab ∨ b = sb) w w' := by
  have hl : k < A.sl.length := by
    rcases Nat.lt_or_ge k A.sl.length with q | q
    · exact q
    · simp [List.getElem?_eq_none q] at hs
  have S := I.slot _ _ hs
  obtain ⟨hb1, hb2⟩ := ok.use s (List.mem_of_getElem? hs)
  obtain ⟨ht1, ht2⟩ := ok.tk
  have c0 := I.made
  have c1 := I.slots
  have c2 := I.freed
  have c3 := I.fresh
  have c4 := I.taken
  rw [hf] at c3
  have hm := ok.len
  have f1 := I.fza 3
  have f2 := I.fza 4
  have f3 := I.fzs (k * 4)
  have f4 := I.fzs (k * 4 + 1)
  have f5 := I.fzs (k * 4 + 2)
  have f6 := I.fzs (k * 4 + 3)
  have d1 := S.use
  have d2 := S.v
  have d3 := S.taken
  have d4 := S.next
  have hne := I.ne
  have hne' := I.ne.symm
  have HI := Lib.hid I
  have HS := Lib.hid hs
  have HF := Lib.hid hf
  clear I hs hf S ok
  go_enter Try.func11, Try.ntmps11
  go_wp2
  go_quiet (fail)
  go_wp2
  go_region
  go_wp2_with fail
  refine (handle_c ab sb cap A.sl.length k (s.use + 1) _ ?_ (by omega) (by omega) hm ?_ (by omega) (by omega)).mono ?_
  · go_simp
  · go_simp
  rintro e w' ⟨rfl, rfl⟩
  go_wp2
  go_ret2
  refine ⟨rfl, ?_⟩
  rw [HF.out]
  exact ⟨(((((HI.out.drewN nq).setFresh (k + 1)).filled HS.out (s.use + 1) v (-1) true).setTaken (A.taken + 1)).drew),
    ((((((Kept.refl _ w).drewN nq).setCell ⟨ab, 3, none⟩ _ (fun _ => .inl rfl)).filled sb _ _ _ _ _ _ _ _ (.inr rfl)).setCell ⟨ab, 4, none⟩ _ (fun _ => .inl rfl)).drew)⟩

set_option maxHeartbeats 400000 in
theorem put_full (ab sb cap : Nat) (A : Ar) (v : Int) (w : World) (I : IsAr w ab sb cap A) (hq : A.freed < 0) (hf : A.fresh = A.sl.length) (ok : A.Ok) :
    Calls Try.prog 11 #[.pointer (some ⟨ab, 0, none⟩), .int .i64 v] w fun e w' => e = .returned (.tuple #[.int .i64 0, .int .i64 4]) ∧ ∃ n, w' = w.drewN n := by
  have c0 := I.made
  have c1 := I.slots
  have c2 := I.freed
  have c3 := I.fresh
  rw [hf] at c3
  have hm := ok.len
  clear I hf ok
  go_enter Try.func11, Try.ntmps11
  go_wp2
  go_quiet (fail)
  go_wp2
  go_ret2
  exact ⟨rfl, _, rfl⟩

set_option maxHeartbeats 400000 in
theorem get_some (ab sb cap : Nat) (A : Ar) (h : Int) (k : Nat) (s : Sl) (w : World) (I : IsAr w ab sb cap A) (hf : A.find h = some (k, s)) (hs : A.sl[k]? = some s) (ok : A.Ok) :
    Calls Try.prog 16 #[.pointer (some ⟨ab, 0, none⟩), .int .i64 h] w fun e w' => e = .returned (.tuple #[.int .i64 s.v, .bool true]) ∧ w = w' := by
  have hl : k < A.sl.length := (List.getElem?_eq_some_iff.1 hs).1
  have c1 := I.slots
  have d2 := (I.slot _ _ hs).v
  have hm := ok.len
  have C := find_some ab sb cap A h k s w I hf ok
  have HC := Lib.hid C
  clear I hf hs ok C
  go_enter Try.func16, Try.ntmps16
  go_wp2_with (go_at_call 29; refine HC.out.mono ?_; rintro e w' ⟨rfl, rfl⟩)
  go_ret2
  exact ⟨rfl, rfl⟩

set_option maxHeartbeats 400000 in
theorem get_none (ab sb cap : Nat) (A : Ar) (h : Int) (w : World) (I : IsAr w ab sb cap A) (hf : A.find h = none) (ok : A.Ok) (hh : h ≤ 9223372036854775807) :
    Calls Try.prog 16 #[.pointer (some ⟨ab, 0, none⟩), .int .i64 h] w fun e w' => e = .returned (.tuple #[.int .i64 0, .bool false]) ∧ w = w' := by
  have C := find_none ab sb cap A h w I hf ok hh
  have HC := Lib.hid C
  clear I hf ok C
  go_enter Try.func16, Try.ntmps16
  go_wp2_with (go_at_call 29; refine HC.out.mono ?_; rintro e w' ⟨⟨k, rfl⟩, rfl⟩)
  go_ret2
  exact ⟨rfl, rfl⟩

set_option maxHeartbeats 400000 in
theorem free_none (ab sb cap : Nat) (A : Ar) (h : Int) (w : World) (I : IsAr w ab sb cap A) (hf : A.find h = none) (ok : A.Ok) (hh : h ≤ 9223372036854775807) :
    Calls Try.prog 12 #[.pointer (some ⟨ab, 0, none⟩), .int .i64 h] w fun e w' => e = .returned (.int .i64 5) ∧ w = w' := by
  have c0 := I.made
  have C := find_none ab sb cap A h w I hf ok hh
  have HC := Lib.hid C
  clear I hf ok C
  go_enter Try.func12, Try.ntmps12
  go_wp2_with (go_at_call 29; refine HC.out.mono ?_; rintro e w' ⟨⟨k, rfl⟩, rfl⟩)
  go_ret
  exact ⟨rfl, rfl⟩

set_option maxHeartbeats 400000 in
theorem free_some (ab sb cap : Nat) (A : Ar) (h : Int) (k : Nat) (s : Sl) (w : World) (I : IsAr w ab sb cap A) (hf : A.find h = some (k, s)) (hs : A.sl[k]? = some s) (ok : A.Ok) (_ht : s.taken = true) (hu : (s.use == 2147483648) = false) :
    Calls Try.prog 12 #[.pointer (some ⟨ab, 0, none⟩), .int .i64 h] w fun e w' => e = .returned (.int .i64 0) ∧
      IsAr w' ab sb cap { A with sl := A.sl.set k { s with taken := false, next := A.freed }, taken := A.taken - 1, freed := k } ∧ Kept (fun b => b = ab ∨ b = sb) w w' := by
  have hl : k < A.sl.length := (List.getElem?_eq_some_iff.1 hs).1
  have S := I.slot _ _ hs
  obtain ⟨ht1, ht2⟩ := ok.tk
  have c0 := I.made
  have c1 := I.slots
  have c2 := I.freed
  have c4 := I.taken
  have hm := ok.len
  have f1 := I.fza 2
  have f2 := I.fza 4
  have f5 := I.fzs (k * 4 + 2)
  have f6 := I.fzs (k * 4 + 3)
  have d1 := S.use
  have d3 := S.taken
  have d4 := S.next
  have hne := I.ne
  have hne' := I.ne.symm
  have C := find_some ab sb cap A h k s w I hf ok
  have HC := Lib.hid C
  have HI := Lib.hid I
  have HS := Lib.hid hs
  clear I hf hs ok C S
  go_enter Try.func12, Try.ntmps12
  go_wp2_with (go_at_call 29; refine HC.out.mono ?_; rintro e w' ⟨rfl, rfl⟩)
  go_region
  go_wp2
  go_ret
  refine ⟨rfl, ?_⟩
  have J := (((((HI.out.setTk HS.out false).setTaken (A.taken - 1)).drew).setNext (set_at HS.out _) A.freed).setFreed k)
  simp only [List.set_set] at J
  exact ⟨J, ((((((Kept.refl _ w).setCell ⟨sb, k * 4 + 2, none⟩ _ (fun _ => .inr rfl)).setCell ⟨ab, 4, none⟩ _ (fun _ => .inl rfl)).drew).setCell ⟨sb, k * 4 + 3, none⟩ _ (fun _ => .inr rfl)).setCell ⟨ab, 2, none⟩ _ (fun _ => .inl rfl))⟩

set_option maxHeartbeats 400000 in
theorem free_worn (ab sb cap : Nat) (A : Ar) (h : Int) (k : Nat) (s : Sl) (w : World) (I : IsAr w ab sb cap A) (hf : A.find h = some (k, s)) (hs : A.sl[k]? = some s) (ok : A.Ok) (_ht : s.taken = true) (hu : s.use = 2147483648) :
    Calls Try.prog 12 #[.pointer (some ⟨ab, 0, none⟩), .int .i64 h] w fun e w' => e = .returned (.int .i64 0) ∧
      IsAr w' ab sb cap { A with sl := A.sl.set k { s with taken := false }, taken := A.taken - 1, lost := A.lost + 1 } ∧ Kept (fun b => b = ab ∨ b = sb) w w' := by
  have hl : k < A.sl.length := (List.getElem?_eq_some_iff.1 hs).1
  have S := I.slot _ _ hs
  obtain ⟨ht1, ht2⟩ := ok.tk
  obtain ⟨hl1, hl2⟩ := ok.lo
  have c0 := I.made
  have c1 := I.slots
  have c2 := I.freed
  have c4 := I.taken
  have c5 := I.lost
  have hm := ok.len
  have f1 := I.fza 5
  have f2 := I.fza 4
  have f5 := I.fzs (k * 4 + 2)
  have d1 := S.use
  rw [hu] at d1
  have d3 := S.taken
  have hne := I.ne
  have hne' := I.ne.symm
  have C := find_some ab sb cap A h k s w I hf ok
  have HC := Lib.hid C
  have HI := Lib.hid I
  have HS := Lib.hid hs
  clear I hf hs ok C S hu
  go_enter Try.func12, Try.ntmps12
  go_wp2_with (go_at_call 29; refine HC.out.mono ?_; rintro e w' ⟨rfl, rfl⟩)
  go_ret
  refine ⟨rfl, (((HI.out.setTk HS.out false).setTaken (A.taken - 1)).setLost (A.lost + 1)), ((((Kept.refl _ w).setCell ⟨sb, k * 4 + 2, none⟩ _ (fun _ => .inr rfl)).setCell ⟨ab, 4, none⟩ _ (fun _ => .inl rfl)).setCell ⟨ab, 5, none⟩ _ (fun _ => .inl rfl))⟩

set_option maxHeartbeats 400000 in
theorem len_c (ab : Nat) (t : Int) (w : World) (c4 : w.cell? ⟨ab, 4, none⟩ = some (.int .i64 t)) :
    Calls Try.prog 13 #[.pointer (some ⟨ab, 0, none⟩)] w fun e w' => e = .returned (.int .i64 t) ∧ w = w' := by
  go_enter Try.func13, Try.ntmps13
  go_wp2
  go_ret
  exact ⟨rfl, rfl⟩

end Go.Proofs.Ytokmjjjedljcpaa

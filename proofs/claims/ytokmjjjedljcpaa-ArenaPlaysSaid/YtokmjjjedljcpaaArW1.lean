/- ArW1: texts for the statements of this seat: contracts of functions, walks, plain laws. Conditions: none. -/
import Derived.Test.YtokmjjjedljcpaaProg
import Derived.WalkKit
import Derived.WalkSpells
import Derived.WalkLawsBesides
import Derived.Lib.Hide
import Derived.Test.YtokmjjjedljcpaaArModel
set_option linter.all false
namespace Go.Proofs.Ytokmjjjedljcpaa
open Go.RowKit

set_option maxHeartbeats 400000 in
theorem handle_c (ab sb cap n : Nat) (k u : Int) (w : World)
    (h1 : w.cell? ⟨ab, 1, none⟩ = some (.slice (some ⟨sb, 0, none⟩) n cap))
    (hk0 : 0 ≤ k) (hk : k < n) (hn : n ≤ 4096)
    (hu : w.cell? ⟨sb, k.toNat * 4, none⟩ = some (.int .i64 u)) (hu0 : 0 ≤ u) (hu1 : u ≤ 4294967297) :
    Calls Try.prog 28 #[.pointer (some ⟨ab, 0, none⟩), .int .i64 k] w fun e w' => e = .returned (.int .i64 (4096 * u + k)) ∧ w = w' := by
  go_enter Try.func28, Try.ntmps28
  go_wp2
  go_ret
  exact ⟨rfl, rfl⟩

set_option maxHeartbeats 400000 in
theorem find_some (ab sb cap : Nat) (A : Ar) (h : Int) (k : Nat) (s : Sl) (w : World) (I : IsAr w ab sb cap A) (hf : A.find h = some (k, s)) (ok : A.Ok) :
    Calls Try.prog 29 #[.pointer (some ⟨ab, 0, none⟩), .int .i64 h] w fun e w' => e = .returned (.tuple #[.int .i64 k, .bool true]) ∧ w = w' := by
  unfold Ar.find at hf
  split at hf
  · simp at hf
  rename_i h0
  split at hf
  · rename_i s' hs
    split at hf
    · rename_i hc
      simp at hf
      obtain ⟨rfl, rfl⟩ := hf
      obtain ⟨ht, he⟩ := hc
      have hl : (h % 4096).toNat < A.sl.length := by
        rcases Nat.lt_or_ge (h % 4096).toNat A.sl.length with q | q
        · exact q
        · simp [List.getElem?_eq_none q] at hs
      have S := I.slot _ _ hs
      have c1 := I.slots
      have c2 := S.use
      have c3 := S.taken
      rw [ht] at c3
      have hm := ok.len
      have hb := ok.use s' (List.mem_of_getElem? hs)
      obtain ⟨hb1, hb2⟩ := hb
      have e1 : ((4096 * s'.use + h % 4096) == h) = true := by simpa using he
      have e2 : ((h % 4096).toNat : Int) = h % 4096 := by omega
      have E2 := Lib.hid e2
      have hl2 : h % 4096 < A.sl.length := by omega
      clear he hs ht S I ok e2
      go_enter Try.func29, Try.ntmps29
      go_wp2_with (go_at_call 28; refine (handle_c _ _ _ _ _ _ _ c1 (by omega) (by omega) hm c2 hb1 (by omega)).mono ?_; rintro e w' ⟨rfl, rfl⟩)
      go_ret2
      refine ⟨?_, rfl⟩
      rw [E2.out]; rfl
    · simp at hf
  · simp at hf


set_option maxHeartbeats 400000 in
theorem find_none (ab sb cap : Nat) (A : Ar) (h : Int) (w : World) (I : IsAr w ab sb cap A) (hf : A.find h = none) (ok : A.Ok) (hh : h ≤ 9223372036854775807) :
    Calls Try.prog 29 #[.pointer (some ⟨ab, 0, none⟩), .int .i64 h] w fun e w' => (∃ k : Int, e = .returned (.tuple #[.int .i64 k, .bool false])) ∧ w = w' := by
  have c1 := I.slots
  have hm := ok.len
  by_cases h0 : h < 4096
  · go_enter Try.func29, Try.ntmps29
    go_wp2
    go_ret2
    exact ⟨⟨_, rfl⟩, rfl⟩
  · cases hs : A.sl[(h % 4096).toNat]? with
    | none =>
      have hl : ¬ h % 4096 < A.sl.length := by
        have := List.getElem?_eq_none_iff.1 hs; omega
      clear hs hf I ok
      go_enter Try.func29, Try.ntmps29
      go_wp2
      go_ret2
      exact ⟨⟨_, rfl⟩, rfl⟩
    | some s =>
      have hl : (h % 4096).toNat < A.sl.length := by
        rcases Nat.lt_or_ge (h % 4096).toNat A.sl.length with q | q
        · exact q
        · simp [List.getElem?_eq_none q] at hs
      have hl2 : h % 4096 < A.sl.length := by omega
      have S := I.slot _ _ hs
      have hb := ok.use s (List.mem_of_getElem? hs)
      obtain ⟨hb1, hb2⟩ := hb
      cases ht : s.taken with
      | false =>
        have c3 := S.taken
        rw [ht] at c3
        clear hs hf I ok S ht
        go_enter Try.func29, Try.ntmps29
        go_wp2
        go_ret2
        exact ⟨⟨_, rfl⟩, rfl⟩
      | true =>
        have c2 := S.use
        have c3 := S.taken
        rw [ht] at c3
        have e1 : ((4096 * s.use + h % 4096) == h) = false := by
          unfold Ar.find at hf
          simp [h0, hs, ht] at hf
          simpa using hf
        clear hs ht S I ok hf
        go_enter Try.func29, Try.ntmps29
        go_wp2_with (go_at_call 28; refine (handle_c _ _ _ _ _ _ _ c1 (by omega) (by omega) hm c2 hb1 (by omega)).mono ?_; rintro e w' ⟨rfl, rfl⟩)
        go_ret2
        exact ⟨⟨_, rfl⟩, rfl⟩

end Go.Proofs.Ytokmjjjedljcpaa

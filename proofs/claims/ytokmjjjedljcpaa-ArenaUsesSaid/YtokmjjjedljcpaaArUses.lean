/- ArUses: texts for the statements of this seat: contracts of functions, walks, plain laws. Conditions: none. -/
import Derived.Test.YtokmjjjedljcpaaArA
import Derived.Test.YtokmjjjedljcpaaArBase
import Derived.Test.YtokmjjjedljcpaaArFun
namespace Go.Proofs.Ytokmjjjedljcpaa
open Go.RowKit

/-- The one slot was used k times, and is free. -/
def U1 (k : Nat) (a : AA) : Prop := ∃ f fl, a = AA.of 1 f fl ∧ (f 0).use = k ∧ (f 0).taken = false ∧ (k = 0 ∧ fl = [] ∨ 0 < k ∧ fl = [0])
/-- The one slot is in its k-th use, and holds v. -/
def U2 (k : Nat) (v : Int) (a : AA) : Prop := ∃ f, a = AA.of 1 f [] ∧ f 0 = { use := k, taken := true, v := v }

theorem U1_start : U1 0 (AA.empty 1) := ⟨_, _, AA.of_empty 1, rfl, rfl, .inl ⟨rfl, rfl⟩⟩
theorem U1_put {k : Nat} {a : AA} (h : U1 k a) (v : Int) : ∃ a', a.put v = (a', 4096 * ((k : Int) + 1), 0) ∧ U2 (k + 1) v a' := by
  obtain ⟨f, fl, rfl, hu, ht, ⟨hk, rfl⟩ | ⟨hk, rfl⟩⟩ := h
  · refine ⟨_, (AA.put_new (k := 0) v (by omega) (fun x hx => by omega) (by rw [hu, hk]; rfl)).trans (by congr 2; omega), _, rfl, ?_⟩
    rw [updU_at, hk]; rfl
  · refine ⟨_, (AA.put_pop v (by omega)).trans (by congr 2; rw [hu]; omega), _, rfl, ?_⟩
    rw [updU_at, hu]; rfl
theorem find_one {f : Nat → U} {fl : List Nat} {x : Int} (h : ¬ ((f 0).taken = true ∧ x = 4096 * (f 0).use)) : (AA.of 1 f fl).find x = none := by
  unfold AA.find
  split
  · rfl
  · rw [AA.of_get]
    by_cases e : (x % 4096).toNat < 1
    · rw [if_pos e, show (x % 4096).toNat = 0 from by omega]
      simp only
      rw [if_neg]
      rintro ⟨h1, h2⟩
      exact h ⟨h1, by omega⟩
    · rw [if_neg e]
theorem no_get {a : AA} {x : Int} (h : a.find x = none) : a.get x = (0, false) := by unfold AA.get; rw [h]
theorem no_free {a : AA} {x : Int} (h : a.find x = none) : a.free x = (a, 5) := by unfold AA.free; rw [h]
theorem U2_none {k : Nat} {v : Int} {a : AA} (h : U2 k v a) {x : Int} (hx : x ≠ 4096 * k) : a.find x = none := by
  obtain ⟨f, rfl, hf⟩ := h
  exact find_one fun q => hx (by rw [q.2, hf])
theorem U2_get {k : Nat} {v : Int} {a : AA} (h : U2 k v a) (hk : 0 < k) : a.get (4096 * k) = (v, true) := by
  obtain ⟨f, rfl, hf⟩ := h
  rw [AA.get_of (k : Int) 0 (by omega) (by omega) (by omega) (by omega), hf, if_pos ⟨rfl, rfl⟩]
theorem U2_free {k : Nat} {v : Int} {a : AA} (h : U2 k v a) (hk : 0 < k) (hk2 : k < 1000) : ∃ a', a.free (4096 * k) = (a', 0) ∧ U1 k a' := by
  obtain ⟨f, rfl, hf⟩ := h
  have F := AA.free_of (N := 1) (f := f) (fl := []) (h := 4096 * k) (k : Int) 0 (by omega) (by omega) (by omega) (by omega) (by omega)
  rw [hf, if_pos ⟨rfl, rfl⟩] at F
  refine ⟨_, F, _, _, rfl, ?_, ?_, .inr ⟨hk, rfl⟩⟩ <;> rw [updU_at]
theorem U1_none {k : Nat} {a : AA} (h : U1 k a) (x : Int) : a.find x = none := by
  obtain ⟨f, fl, rfl, hu, ht, -⟩ := h
  exact find_one fun q => by rw [ht] at q; simp at q
theorem U1_end {k : Nat} {a : AA} (h : U1 k a) (hk : k < 1000) : a.len = 0 ∧ a.room = 1 := by
  obtain ⟨f, fl, rfl, hu, ht, -⟩ := h
  rw [AA.len_of, AA.room_of]
  have : ¬ ((k : Int) = 2147483648) := by omega
  simp [List.range_succ, ht, hu, this]
end Go.Proofs.Ytokmjjjedljcpaa

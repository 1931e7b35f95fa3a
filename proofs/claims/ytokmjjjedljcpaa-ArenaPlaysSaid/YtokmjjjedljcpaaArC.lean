/- ArC: texts for the statements of this seat: contracts of functions, walks, plain laws. Conditions: none. -/
import Derived.Test.YtokmjjjedljcpaaArW3
import Derived.Test.YtokmjjjedljcpaaArW4
set_option linter.all false
namespace Go.Proofs.Ytokmjjjedljcpaa
open Go.RowKit

theorem put_c {ab sb cap : Nat} {A A' : Ar} {v h er : Int} {w : World} (I : IsAr w ab sb cap A) (ok : A.Ok) (hp : A.put v = (A', h, er)) :
    Calls Try.prog 11 #[.pointer (some ⟨ab, 0, none⟩), .int .i64 v] w fun e w' => e = .returned (.tuple #[.int .i64 h, .int .i64 er]) ∧
      IsAr w' ab sb cap A' ∧ Kept (fun b => b = ab ∨ b = sb) w w' := by
  unfold Ar.put at hp
  split at hp
  · rename_i h0
    have hl := ok.fd1
    obtain ⟨s, hs⟩ : ∃ s, A.sl[A.freed.toNat]? = some s := ⟨_, List.getElem?_eq_getElem (by omega)⟩
    rw [hs] at hp
    simp only [Prod.mk.injEq] at hp
    obtain ⟨rfl, rfl, rfl⟩ := hp
    have hf : A.freed = (A.freed.toNat : Int) := by omega
    have C := put_freed ab sb cap A v A.freed.toNat s w I hf hs ok
    rw [← hf] at C
    exact C
  · rename_i h0
    cases hs : A.sl[A.fresh.toNat]? with
    | some s =>
      rw [hs] at hp
      simp only [Prod.mk.injEq] at hp
      obtain ⟨rfl, rfl, rfl⟩ := hp
      have hf : A.fresh = (A.fresh.toNat : Int) := by have := ok.fr0; omega
      have C := put_fresh ab sb cap A v A.fresh.toNat s w I (by omega) hf hs ok
      rw [← hf] at C
      exact C
    | none =>
      rw [hs] at hp
      simp only [Prod.mk.injEq] at hp
      obtain ⟨rfl, rfl, rfl⟩ := hp
      have hl := List.getElem?_eq_none_iff.1 hs
      have hf : A.fresh = A.sl.length := by have := ok.fr0; have := ok.fr1; omega
      refine (put_full ab sb cap A v w I (by omega) hf ok).mono ?_
      rintro e w' ⟨rfl, n, rfl⟩
      exact ⟨rfl, I.drewN n, (Kept.refl _ w).drewN n⟩

theorem get_c {ab sb cap : Nat} {A : Ar} {h v : Int} {b : Bool} {w : World} (I : IsAr w ab sb cap A) (ok : A.Ok) (hh : h ≤ 9223372036854775807) (hp : A.get h = (v, b)) :
    Calls Try.prog 16 #[.pointer (some ⟨ab, 0, none⟩), .int .i64 h] w fun e w' => e = .returned (.tuple #[.int .i64 v, .bool b]) ∧ w = w' := by
  unfold Ar.get at hp
  split at hp
  · rename_i k s hf
    simp only [Prod.mk.injEq] at hp
    obtain ⟨rfl, rfl⟩ := hp
    exact get_some ab sb cap A h k s w I hf (Ar.find_spec hf).2.2.1 ok
  · rename_i hf
    simp only [Prod.mk.injEq] at hp
    obtain ⟨rfl, rfl⟩ := hp
    exact get_none ab sb cap A h w I hf ok hh

theorem free_c {ab sb cap : Nat} {A A' : Ar} {h er : Int} {w : World} (I : IsAr w ab sb cap A) (ok : A.Ok) (hh : h ≤ 9223372036854775807) (hp : A.free h = (A', er)) :
    Calls Try.prog 12 #[.pointer (some ⟨ab, 0, none⟩), .int .i64 h] w fun e w' => e = .returned (.int .i64 er) ∧ IsAr w' ab sb cap A' ∧ Kept (fun b => b = ab ∨ b = sb) w w' := by
  unfold Ar.free at hp
  split at hp
  · rename_i k s hf
    obtain ⟨-, -, hs, ht, -⟩ := Ar.find_spec hf
    split at hp
    · rename_i hu
      simp only [Prod.mk.injEq] at hp
      obtain ⟨rfl, rfl⟩ := hp
      exact free_worn ab sb cap A h k s w I hf hs ok ht hu
    · rename_i hu
      simp only [Prod.mk.injEq] at hp
      obtain ⟨rfl, rfl⟩ := hp
      exact free_some ab sb cap A h k s w I hf hs ok ht (by simpa using hu)
  · rename_i hf
    simp only [Prod.mk.injEq] at hp
    obtain ⟨rfl, rfl⟩ := hp
    refine (free_none ab sb cap A h w I hf ok hh).mono ?_
    rintro e w' ⟨rfl, rfl⟩
    exact ⟨rfl, I, Kept.refl _ _⟩

end Go.Proofs.Ytokmjjjedljcpaa

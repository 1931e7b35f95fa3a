/- WhAdvC: texts for the statements of this seat: contracts of functions, walks, plain laws. Conditions: none. -/
import Derived.Test.YtjlcchjcppkbjaaDoorWhAdvW
set_option linter.all false
/- Advance, as the abstract wheel has it. -/
namespace Go.Proofs.YtjlcchjcppkbjaaDoor
open Go.RowKit
variable {w w' : World} {base wb : Nat} {kd : Nat → Nat}
/-- What Advance leaves, whatever its error. -/
def AdvR (w : World) (base wb : Nat) (kd : Nat → Nat) (W' : Wh) (l : List Tm) (er : Int) (e : Ending) (w' : World) : Prop :=
  ∃ v, e = .returned (.tuple #[v, .int .i64 er]) ∧ Own w' w.heap.size v (l.map Tm.fd) ∧ ∃ kd', IsW w' base wb kd' W' ∧ (∀ b, b < w.heap.size → kd' b = kd b) ∧ (∀ b, v.ownBlock = some b → kd' b = 0) ∧ Kept (fun b => kd b ≠ 0) w w'
theorem advance_c {W W' : Wh} (hT : Tab w) (hb0 : 0 < base) (h : IsW w base wb kd W) (lim : Int) {l : List Tm} {er : Int} (hp : W.advance lim = (W', l, er)) :
    Calls Tryd.prog 17 #[.pointer (some ⟨wb, 0, none⟩), .int .i64 lim] w (AdvR w base wb kd W' l er) := by
  have hW := h
  obtain ⟨ok, ab, sb, cap, mb, ts, M, hts⟩ := h
  have hN : NEVER = 4611686018427387904 := rfl
  have same : ∀ {w' : World} (er : Int), w' = w → AdvR w base wb kd W [] er (.returned (.tuple #[.slice none 0 0, .int .i64 er])) w' := fun {w'} er e => by
    subst e
    exact ⟨_, rfl, Own.nil _ _, kd, hW, fun _ _ => rfl, fun b e => by simp [Value.ownBlock] at e, Kept.refl _ _⟩
  unfold Wh.advance at hp
  split at hp
  · rename_i h1
    injection hp with e1 e2; injection e2 with e2 e3; subst e1 e2 e3
    exact (adv_arg M lim h1).mono fun e w' hh => by rw [hh.1]; exact same 2 hh.2
  rename_i h1
  split at hp
  · rename_i h2
    injection hp with e1 e2; injection e2 with e2 e3; subst e1 e2 e3
    exact (adv_order M lim (by omega) (by omega) h2).mono fun e w' hh => by rw [hh.1]; exact same 8 hh.2
  · rename_i h2
    injection hp with e1 e2; injection e2 with e2 e3; subst e1 e2 e3
    exact adv_go hT hb0 ok M hts lim (by omega) (by omega)
end Go.Proofs.YtjlcchjcppkbjaaDoor

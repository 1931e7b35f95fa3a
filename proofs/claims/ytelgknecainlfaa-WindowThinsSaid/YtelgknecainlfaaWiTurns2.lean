/- WiTurns2: texts for the statements of this seat: contracts of functions, walks, plain laws. Conditions: none. -/
import Derived.Test.YtelgknecainlfaaWiTurns
set_option linter.all false
/- turns: the walk. -/
namespace Go.Proofs.Ytelgknecainlfaa
open Go.RowKit
open Wi (vld Srt chk)

def TurnsPost (f g : List Int) (w : World) (e : Ending) (w' : World) : Prop := ∃ (v : Value) (d : List T2), e = .returned (.tuple #[v, .int .i64 (runsE f g)]) ∧ Tws w' v d ∧ (if runsE f g = 0 then d.Perm (trn f g) ∧ d.Pairwise (fun x y => ltW y x = false) else d = []) ∧ Kept (fun _ => False) w w'
theorem Tws.nil (w : World) : Tws w (.slice none 0 0) [] := .inl ⟨none, 0, rfl, rfl⟩
set_option maxRecDepth 100000 in
set_option maxHeartbeats 4000000 in
theorem turns_bad {w : World} {v u : Value} {f g : List Int} (h : Ints w v f) (k : Ints w u g) (hl : f.length ≤ 4611686018427387904) (_hl2 : g.length ≤ 4611686018427387904) (hb : 100000 < f.length ∨ f.length ≠ g.length) : Calls Try.prog 42 #[v, u] w (TurnsPost f g w) := by
  obtain ⟨aa, cap, rfl⟩ := h.len
  obtain ⟨ab, cbp, rfl⟩ := k.len
  have HE : Hid (runsE f g = if 100000 < f.length then 12 else if f.length ≠ g.length then 2 else 0) := Lib.hid (by
    unfold runsE
    split
    · rfl
    · rw [if_pos (by omega), if_pos (by omega)])
  clear h k
  generalize f.length = n at hl hb HE ⊢
  clear _hl2
  generalize g.length = m at hb HE ⊢
  by_cases h1 : 100000 < n
  · have h1' : (100000 : Int) < (n : Int) := by omega
    rw [if_pos h1] at HE
    go_enter Try.func42, Try.ntmps42
    go_wp2
    go_ret2
    exact ⟨_, [], by rw [HE.out]; rfl, Tws.nil _, by rw [if_neg (by rw [HE.out]; decide)], Kept.refl _ _⟩
  · have h1' : ¬ (100000 : Int) < (n : Int) := by omega
    have h2 : n ≠ m := by omega
    have hb2 : ((n : Int) == (m : Int)) = false := by simp; omega
    have h2' : ¬ (n : Int) = (m : Int) := by omega
    rw [if_neg h1, if_pos h2] at HE
    go_enter Try.func42, Try.ntmps42
    go_wp2
    go_ret2
    exact ⟨_, [], by rw [HE.out]; rfl, Tws.nil _, by rw [if_neg (by rw [HE.out]; decide)], Kept.refl _ _⟩
end Go.Proofs.Ytelgknecainlfaa

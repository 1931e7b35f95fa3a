/- Which lists are valid. -/
import Derived.Test.YtaedijppbghnaaaBkPlain
namespace Go.Proofs.Ytaedijppbghnaaa.Bk
def MT : Int := 253402300799
def vld (t : Int) : Bool := decide (0 ≤ t) && decide (t ≤ 253402300799)
def chk1 (s : Sp) : Int := if (!vld s.1 || !vld s.2) = true then 14 else if s.2 < s.1 then 8 else 0
def chkL : List Sp → Int
  | [] => 0
  | s :: r => if chk1 s = 0 then chkL r else chk1 s
def chk (l : List Sp) : Int := if 64 < l.length then 12 else chkL l
theorem chkL_get {l : List Sp} {j : Nat} (hj : j < l.length) : chkL (l.drop j) = if chk1 l[j] = 0 then chkL (l.drop (j + 1)) else chk1 l[j] := by
  rw [List.drop_eq_getElem_cons hj, chkL]
structure Good (l : List Sp) : Prop where
  le : ∀ s ∈ l, s.1 ≤ s.2
  lo : ∀ s ∈ l, 0 ≤ s.1
  hi : ∀ s ∈ l, s.2 ≤ 253402300799
theorem Good.nil : Good [] := ⟨by simp, by simp, by simp⟩
theorem chkL_good : ∀ {l : List Sp}, chkL l = 0 → Good l
  | [], _ => Good.nil
  | s :: r, h => by
    rw [chkL] at h
    by_cases h1 : chk1 s = 0
    · rw [if_pos h1] at h
      have g := chkL_good h
      have : (0 ≤ s.1 ∧ s.1 ≤ s.2) ∧ s.2 ≤ 253402300799 := by
        unfold chk1 at h1
        split at h1
        · cases h1
        · rename_i q
          split at h1
          · cases h1
          · simp [vld] at q
            omega
      exact ⟨fun x hx => (List.mem_cons.1 hx).elim (fun e => e ▸ this.1.2) (g.le x), fun x hx => (List.mem_cons.1 hx).elim (fun e => e ▸ this.1.1) (g.lo x), fun x hx => (List.mem_cons.1 hx).elim (fun e => e ▸ this.2) (g.hi x)⟩
    · rw [if_neg h1] at h; exact absurd h h1
theorem chkL_of_good : ∀ {l : List Sp}, Good l → chkL l = 0
  | [], _ => rfl
  | s :: r, g => by
    have h0 := g.le s (.head _)
    have h1 := g.lo s (.head _)
    have h2 := g.hi s (.head _)
    have : chk1 s = 0 := by
      have a : vld s.1 = true := by simp [vld]; omega
      have b : vld s.2 = true := by simp [vld]; omega
      simp [chk1, a, b]; omega
    rw [chkL, if_pos this]
    exact chkL_of_good ⟨fun x hx => g.le x (.tail _ hx), fun x hx => g.lo x (.tail _ hx), fun x hx => g.hi x (.tail _ hx)⟩
theorem chk_good {l : List Sp} : chk l = 0 ↔ l.length ≤ 64 ∧ Good l := by
  unfold chk
  constructor
  · intro h
    split at h
    · cases h
    · exact ⟨by omega, chkL_good h⟩
  · intro ⟨h1, h2⟩
    rw [if_neg (by omega), chkL_of_good h2]
end Go.Proofs.Ytaedijppbghnaaa.Bk

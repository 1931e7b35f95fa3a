/- ArRPlain: texts for the statements of this seat: contracts of functions, walks, plain laws. Conditions: none. -/
import Derived.Test.YtokmjjjedljcpaaArAbs
set_option linter.all false
/- The abstract arena as the document reckons it: plain. -/
namespace Go.Proofs.Ytokmjjjedljcpaa
/-- What is true of an abstract arena that the program's stands for. -/
structure AOk (a : AA) : Prop where
  len : a.sl.length ≤ 4096
  use : ∀ (k : Nat) (s : U), a.sl[k]? = some s → 0 ≤ s.use ∧ s.use ≤ 2147483648
  tk : ∀ (k : Nat) (s : U), a.sl[k]? = some s → s.taken = true → 1 ≤ s.use
  fl : ∀ k ∈ a.fl, ∃ s, a.sl[k]? = some s ∧ s.taken = false ∧ 1 ≤ s.use ∧ s.use ≠ 2147483648
  nodup : a.fl.Nodup
theorem Rep.aok {A : Ar} {a : AA} (R : Rep A a) : AOk a where
  len := by rw [R.length]; exact R.len
  use := fun k s hs => by
    rw [R.getU] at hs
    obtain ⟨t, ht, rfl⟩ := Option.map_eq_some_iff.1 hs
    exact R.use ht
  tk := fun k s hs h => by
    rw [R.getU] at hs
    obtain ⟨t, ht, rfl⟩ := Option.map_eq_some_iff.1 hs
    by_cases hk : (k : Int) < A.fresh
    · exact (R.old k t ht hk).1
    · have h2 := (R.new k t ht (by omega)).2
      have h3 : t.taken = true := h
      rw [h2] at h3
      cases h3
  fl := fun k hk => by
    obtain ⟨s, hs, h1, h2, h3⟩ := R.inl k hk
    exact ⟨s.u, by rw [R.getU, hs]; rfl, h1, (R.old k s hs h2).1, h3⟩
  nodup := R.nodup
/-- A place that the document's search stops at. -/
def hit (a : AA) (h : Int) (k : Nat) : Prop := ∃ s, a.sl[k]? = some s ∧ s.taken = true ∧ 4096 * s.use + k = h
theorem hit_find {a : AA} (ok : AOk a) {h : Int} {k : Nat} {s : U} (hs : a.sl[k]? = some s) (ht : s.taken = true) (hh : 4096 * s.use + k = h) : a.find h = some (k, s) := by
  have h1 := ok.tk k s hs ht
  have h2 := (List.getElem?_eq_some_iff.1 hs).1
  have h3 := ok.len
  have e : (h % 4096).toNat = k := by omega
  unfold AA.find
  rw [if_neg (by omega), e, hs]
  simp only []
  rw [if_pos ⟨ht, by omega⟩]
theorem find_hit {a : AA} {h : Int} {k : Nat} {s : U} (hf : a.find h = some (k, s)) : a.sl[k]? = some s ∧ s.taken = true ∧ 4096 * s.use + k = h := by
  unfold AA.find at hf
  split at hf
  · cases hf
  · split at hf
    · rename_i h1 t ht
      split at hf
      · rename_i h2
        injection hf with hf
        injection hf with e1 e2
        subst e1 e2
        exact ⟨ht, h2.1, by omega⟩
      · cases hf
    · cases hf
theorem find_nohit {a : AA} (ok : AOk a) {h : Int} (hf : a.find h = none) (k : Nat) (s : U) (hs : a.sl[k]? = some s) : ¬ (s.taken = true ∧ 4096 * s.use + k = h) := fun ⟨h1, h2⟩ => by
  rw [hit_find ok hs h1 h2] at hf
  cases hf
/-- The search of the document: the place, or -1. -/
def AA.at_ (a : AA) (h : Int) : Int := match a.find h with | some (k, _) => (k : Int) | none => -1
theorem at_hit {a : AA} (ok : AOk a) {h : Int} {k : Nat} {s : U} (hs : a.sl[k]? = some s) (ht : s.taken = true) (hh : 4096 * s.use + k = h) : a.at_ h = (k : Int) := by
  unfold AA.at_
  rw [hit_find ok hs ht hh]
theorem at_miss {a : AA} {h : Int} (hn : ∀ (k : Nat) (s : U), a.sl[k]? = some s → ¬ (s.taken = true ∧ 4096 * s.use + k = h)) : a.at_ h = -1 := by
  unfold AA.at_
  cases hf : a.find h with
  | none => rfl
  | some p =>
    obtain ⟨k, s⟩ := p
    obtain ⟨h1, h2, h3⟩ := find_hit hf
    exact absurd ⟨h2, h3⟩ (hn k s h1)
end Go.Proofs.Ytokmjjjedljcpaa

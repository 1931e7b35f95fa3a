/- WiPlain: texts for the statements of this seat: contracts of functions, walks, plain laws. Conditions: none. -/
set_option linter.all false
/- Lists of times: which are valid. -/
namespace Go.Proofs.Ytelgknecainlfaa.Wi
def vld (t : Int) : Bool := decide (0 ≤ t) && decide (t ≤ 253402300799)
theorem vld_iff {t : Int} : vld t = true ↔ 0 ≤ t ∧ t ≤ 253402300799 := by simp [vld]
/-- Increasing, or equal. -/
def Srt (l : List Int) : Prop := ∀ i x y, l[i]? = some x → l[i + 1]? = some y → x ≤ y
theorem Srt.le {l : List Int} (h : Srt l) : ∀ {k i : Nat} {x y : Int}, l[i]? = some x → l[i + k]? = some y → x ≤ y
  | 0, i, x, y, hx, hy => by rw [Nat.add_zero, hx] at hy; injection hy with hy; omega
  | k + 1, i, x, y, hx, hy => by
    have hlt := (List.getElem?_eq_some_iff.1 hy).1
    have hz : l[i + k]? = some l[i + k] := List.getElem?_eq_getElem (by omega)
    have h1 := h.le hx hz
    have h2 := h (i + k) _ _ hz (by rw [← hy]; rfl)
    omega
theorem Srt.mono {l : List Int} (h : Srt l) {i j : Nat} {x y : Int} (hij : i ≤ j) (hx : l[i]? = some x) (hy : l[j]? = some y) : x ≤ y := by
  obtain ⟨k, rfl⟩ := Nat.exists_eq_add_of_le hij
  exact h.le hx hy
open Classical in
/-- Which error a list has. -/
noncomputable def chk (l : List Int) : Int := if 100000 < l.length then 12 else if l.all vld = false then 14 else if ¬ Srt l then 8 else 0
theorem chk_many {l : List Int} (h : 100000 < l.length) : chk l = 12 := by unfold chk; rw [if_pos h]
theorem chk_time {l : List Int} (h : ¬ 100000 < l.length) (h2 : l.all vld = false) : chk l = 14 := by unfold chk; rw [if_neg h, if_pos h2]
theorem chk_order {l : List Int} (h : ¬ 100000 < l.length) (h2 : l.all vld = true) (h3 : ¬ Srt l) : chk l = 8 := by unfold chk; rw [if_neg h, if_neg (by simp [h2]), if_pos h3]
theorem chk_ok {l : List Int} (h : ¬ 100000 < l.length) (h2 : l.all vld = true) (h3 : Srt l) : chk l = 0 := by unfold chk; rw [if_neg h, if_neg (by simp [h2]), if_neg (fun q => q h3)]
structure Good (l : List Int) : Prop where
  len : l.length ≤ 100000
  vld : ∀ x ∈ l, 0 ≤ x ∧ x ≤ 253402300799
  srt : Srt l
theorem chk_good {l : List Int} : chk l = 0 ↔ Good l := by
  constructor
  · intro h
    by_cases h1 : 100000 < l.length
    · rw [chk_many h1] at h; cases h
    · cases h2 : l.all vld with
      | false => rw [chk_time h1 h2] at h; cases h
      | true =>
        by_cases h3 : Srt l
        · exact ⟨by omega, fun x hx => vld_iff.1 (List.all_eq_true.1 h2 x hx), h3⟩
        · rw [chk_order h1 h2 h3] at h; cases h
  · intro h
    exact chk_ok (by have := h.len; omega) (List.all_eq_true.2 fun x hx => vld_iff.2 (h.vld x hx)) h.srt
/-- Whether a limit is allowed. -/
def inS (x : Int) : Bool := decide (0 ≤ x) && decide (x ≤ 68719476736)
theorem inS_iff {x : Int} : inS x = true ↔ 0 ≤ x ∧ x ≤ 68719476736 := by simp [inS]
def limB (T U : Int) : Bool := inS T && inS U && (decide (0 < T) || decide (U = 0))
def limE (T U : Int) : Int := if limB T U = true then 0 else 16
def longE (n : Int) : Int := if (decide (n < 0) || decide (68719476736 < n)) = true then 2 else 0
end Go.Proofs.Ytelgknecainlfaa.Wi

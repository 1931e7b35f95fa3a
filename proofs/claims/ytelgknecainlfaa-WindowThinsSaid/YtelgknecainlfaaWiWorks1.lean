/- WiWorks1: texts for the statements of this seat: contracts of functions, walks, plain laws. Conditions: none. -/
import Derived.Test.YtelgknecainlfaaWiPeak
import Derived.Test.YtelgknecainlfaaWiMost3
set_option linter.all false
/- The chapter's examples: what the contracts say of them. -/
namespace Go.Proofs.Ytelgknecainlfaa
open Go.RowKit
open Wi (vld Srt chk limB limE inS longE)

def okB (l : List Int) (L : Int) (i j : Nat) : Bool := match l[i]?, l[j]? with
  | some x, some y => decide (i ≤ j) && decide (y - x ≤ L)
  | _, _ => false
theorem okB_iff {l : List Int} {L : Int} {i j : Nat} : okB l L i j = true ↔ okp l L i j := by
  unfold okB okp
  constructor
  · intro h
    split at h
    · rename_i x y hx hy
      simp only [Bool.and_eq_true, decide_eq_true_eq] at h
      exact ⟨x, y, hx, hy, h.1, h.2⟩
    · cases h
  · rintro ⟨x, y, hx, hy, h1, h2⟩
    rw [hx, hy]
    simp [h1, h2]
def eyB (T U : Int) (l : List Int) (a b : Nat) : Bool := match l[a]?, l[b]? with
  | some x, some y => decide (0 < T) && decide (y - x + U < ((b : Int) - a) * T)
  | _, _ => false
theorem eyB_iff {T U : Int} {l : List Int} {a b : Nat} : eyB T U l a b = true ↔ Ey T U l a b := by
  unfold eyB Ey
  constructor
  · intro h
    split at h
    · rename_i x y hx hy
      simp only [Bool.and_eq_true, decide_eq_true_eq] at h
      exact ⟨h.1, x, y, hx, hy, h.2⟩
    · cases h
  · rintro ⟨h1, x, y, hx, hy, h2⟩
    rw [hx, hy]
    simp [h1, h2]
def srtB (l : List Int) : Bool := (List.range l.length).all fun i => match l[i]?, l[i + 1]? with
  | some x, some y => decide (x ≤ y)
  | _, _ => true
theorem srtB_iff {l : List Int} : srtB l = true ↔ Srt l := by
  unfold srtB Srt
  rw [List.all_eq_true]
  constructor
  · intro h i x y hx hy
    have := h i (List.mem_range.2 (List.getElem?_eq_some_iff.1 hx).1)
    rw [hx, hy] at this
    simpa using this
  · intro h i hi
    split
    · rename_i x y hx hy
      exact decide_eq_true (h i x y hx hy)
    · rfl
theorem chk_of {l : List Int} (h : l.length ≤ 100000) (h2 : l.all vld = true) (h3 : srtB l = true) : chk l = 0 := Wi.chk_ok (by omega) h2 (srtB_iff.1 h3)
theorem w_most {w w' : World} {e : Ending} (h : MostPost [0, 0, 0, 5, 10, 40] 10 w e w') : e = .returned (.tuple #[.int .i64 5, .int .i64 0]) ∧ Kept (fun _ => False) w w' := by
  obtain ⟨n, rfl, hn, -, K⟩ := h
  have hE : mostE [0, 0, 0, 5, 10, 40] 10 = 0 := by
    rw [mostE_long (chk_of (by decide) (by decide) (by decide))]; decide
  rw [if_pos hE] at hn
  have hM : MaxOf (okp [0, 0, 0, 5, 10, 40] 10) 5 := by
    refine ⟨fun i j h => ?_, .inr ⟨0, 4, okB_iff.1 (by decide), rfl⟩⟩
    have hl := h.lt
    have h' := okB_iff.2 h
    have hi : i < 6 := Nat.lt_of_le_of_lt hl.1 hl.2
    have hj : j < 6 := hl.2
    have key : ∀ i < 6, ∀ j < 6, okB [0, 0, 0, 5, 10, 40] 10 i j = true → j + 1 ≤ 5 + i := by decide
    exact key i hi j hj h'
  have := MaxOf.unique hn hM
  subst this
  rw [hE]
  exact ⟨rfl, K⟩
theorem w_bound {w w' : World} {e : Ending} (h : BoundPost 5 10 10 w e w') : e = .returned (.tuple #[.int .i64 5, .int .i64 0]) ∧ Kept (fun _ => False) w w' := h
theorem w_keeps {w w' : World} {e : Ending} (h : KeepsPost 5 10 [0, 0, 0, 4] w e w') : e = .returned (.tuple #[.int .i64 0, .int .i64 3, .bool false, .int .i64 0]) ∧ Kept (fun _ => False) w w' := by
  obtain ⟨i, j, is, rfl, hn, K⟩ := h
  have hE : bothE 5 10 [0, 0, 0, 4] = 0 := by
    unfold bothE
    rw [if_neg (by decide)]
    exact chk_of (by decide) (by decide) (by decide)
  rw [if_pos hE] at hn
  have hM : KeepsR 5 10 [0, 0, 0, 4] 0 3 false := by
    refine .inr ⟨rfl, 0, 3, rfl, rfl, by decide, eyB_iff.1 (by decide), fun a b hab hb h => ?_, fun a ha hab h => ?_⟩
    · have key : ∀ a < 4, ∀ b < 3, eyB 5 10 [0, 0, 0, 4] a b = false := by decide
      have := eyB_iff.2 h
      rw [key a (by omega) b hb] at this
      cases this
    · have key : ∀ a < 4, 0 < a → eyB 5 10 [0, 0, 0, 4] a 3 = false := by decide
      have := eyB_iff.2 h
      rw [key a (by omega) ha] at this
      cases this
  obtain ⟨rfl, rfl, rfl⟩ := KeepsR.unique hn hM
  rw [hE]
  exact ⟨rfl, K⟩
theorem w_thin {w w' : World} {e : Ending} (h : ThinPost 5 10 [0, 0, 0, 0, 4, 5] w e w') : ∃ v, e = .returned (.tuple #[v, .int .i64 0]) ∧ Ints w' v [0, 0, 0, 5] ∧ Kept (fun _ => False) w w' := by
  obtain ⟨v, rfl, hr⟩ := h
  have hE : bothE 5 10 [0, 0, 0, 0, 4, 5] = 0 := by
    unfold bothE
    rw [if_neg (by decide)]
    exact chk_of (by decide) (by decide) (by decide)
  rw [if_pos hE] at hr
  have ht : thinF 5 10 [0, 0, 0, 0, 4, 5] = [0, 0, 0, 5] := by decide
  rw [ht] at hr
  rw [hE]
  exact ⟨v, rfl, hr.ints, hr.2.2⟩
theorem w_peak {w w' : World} {e : Ending} (h : PeakPost [0, 3, 5] [5, 6, 9] w e w') : e = .returned (.tuple #[.int .i64 2, .int .i64 3, .int .i64 0]) ∧ Kept (fun _ => False) w w' := by
  obtain ⟨n, t, rfl, hn, -, K⟩ := h
  have hE : runsE [0, 3, 5] [5, 6, 9] = 0 := by decide
  rw [if_pos hE] at hn
  have hM : Pk [0, 3, 5] [5, 6, 9] 2 3 := ⟨by decide, fun _ => by decide, fun _ => by decide, fun h => by cases h⟩
  obtain ⟨rfl, rfl⟩ := Pk.unique hn hM
  rw [hE]
  exact ⟨rfl, K⟩
end Go.Proofs.Ytelgknecainlfaa

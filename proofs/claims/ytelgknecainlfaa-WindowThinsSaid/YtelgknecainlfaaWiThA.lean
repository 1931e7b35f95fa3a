/- WiThA: texts for the statements of this seat: contracts of functions, walks, plain laws. Conditions: none. -/
import Derived.Test.YtelgknecainlfaaWiKeep2
import Derived.Test.YtelgknecainlfaaWiThin
set_option linter.all false
/- Thin: what remains keeps to the limit, and is a part of the launches. -/
namespace Go.Proofs.Ytelgknecainlfaa
open Go.RowKit
open Wi (vld Srt chk limE)
theorem maxlen_le {n : Nat} (h : n ≤ maxLen) : n ≤ 9223372036854775807 := by unfold maxLen at h; omega

/-- All of them keep to the limit. -/
def KP (T U : Int) (l : List Int) : Prop := ∀ a b, a < b → ¬ Ey T U l a b
theorem KP.nil (T U : Int) : KP T U [] := fun a b _ h => by have := h.lt; simp at this
theorem Ey.left {T U : Int} {o : List Int} {t : Int} {a b : Nat} (hb : b < o.length) (ha : a < o.length) : Ey T U (o ++ [t]) a b ↔ Ey T U o a b := by
  unfold Ey
  rw [List.getElem?_append_left ha, List.getElem?_append_left hb]
theorem KP.snoc {T U : Int} {o : List Int} {t : Int} : KP T U (o ++ [t]) ↔ KP T U o ∧ keepB T U o t = true := by
  have hlast : (o ++ [t])[o.length]? = some t := by simp
  constructor
  · intro h
    refine ⟨fun a b hab hE => h a b hab ((Ey.left hE.lt.2 hE.lt.1).2 hE), keepB_iff.2 fun k x hx => ?_⟩
    have hk := (List.getElem?_eq_some_iff.1 hx).1
    cases he : early T U ((o.length : Int) - k) (t - x) with
    | false => rfl
    | true =>
      exfalso
      exact h k o.length hk ((Ey.of (by rw [List.getElem?_append_left hk]; exact hx) hlast).1 he)
  · rintro ⟨h1, h2⟩ a b hab hE
    have hbl := hE.lt.2
    rw [List.length_append, List.length_singleton] at hbl
    by_cases e : b = o.length
    · subst e
      have hx := List.getElem?_eq_getElem hab
      have := keepB_iff.1 h2 a _ hx
      rw [(Ey.of (by rw [List.getElem?_append_left hab]; exact hx) hlast).2 hE] at this
      cases this
    · exact h1 a b hab ((Ey.left (by omega) (by omega)).1 hE)
/-- The first i of them, thinned. -/
def thU (T U : Int) (l : List Int) (i : Nat) : List Int := thinF T U (l.take i)
theorem thU_step {T U : Int} {l : List Int} {i : Nat} {x : Int} (hx : l[i]? = some x) : thU T U l (i + 1) = if keepB T U (thU T U l i) x = true then thU T U l i ++ [x] else thU T U l i := by
  obtain ⟨hi, rfl⟩ := List.getElem?_eq_some_iff.1 hx
  exact thinF_snoc T U hi
theorem thU_zero (T U : Int) (l : List Int) : thU T U l 0 = [] := rfl
theorem thU_all {T U : Int} {l : List Int} {i : Nat} (h : l.length ≤ i) : thU T U l i = thinF T U l := by
  unfold thU
  rw [List.take_of_length_le h]
theorem thU_keep (T U : Int) (l : List Int) (i : Nat) : KP T U (thU T U l i) := by
  induction i with
  | zero => exact KP.nil T U
  | succ i ih =>
    rcases Nat.lt_or_ge i l.length with h | h
    · rw [thU_step (List.getElem?_eq_getElem h)]
      split
      · rename_i q; exact KP.snoc.2 ⟨ih, q⟩
      · exact ih
    · rw [thU_all (by omega), ← thU_all h]; exact ih
theorem thU_sub (T U : Int) (l : List Int) (i : Nat) : (thU T U l i).Sublist (l.take i) := by
  induction i with
  | zero => exact List.Sublist.refl _
  | succ i ih =>
    rcases Nat.lt_or_ge i l.length with h | h
    · have e : l.take (i + 1) = l.take i ++ [l[i]] := by rw [List.take_add_one, List.getElem?_eq_getElem h]; rfl
      rw [thU_step (List.getElem?_eq_getElem h), e]
      split
      · exact List.Sublist.append ih (List.Sublist.refl _)
      · exact ih.trans (List.sublist_append_left _ _)
    · rw [thU_all (by omega), ← thU_all h, List.take_of_length_le (show l.length ≤ i + 1 by omega)]
      rwa [List.take_of_length_le h] at ih
theorem thin_sub (T U : Int) (l : List Int) : (thinF T U l).Sublist l := by
  have := thU_sub T U l l.length
  rwa [thU_all (Nat.le_refl _), List.take_length] at this
theorem thU_pre (T U : Int) (l : List Int) (i : Nat) : thU T U l i = (thinF T U l).take (thU T U l i).length := by
  have h : ∀ k, thU T U l i = (thU T U l (i + k)).take (thU T U l i).length := by
    intro k
    induction k with
    | zero => rw [Nat.add_zero, List.take_length]
    | succ k ih =>
      rcases Nat.lt_or_ge (i + k) l.length with hl | hl
      · rw [← Nat.add_assoc, thU_step (List.getElem?_eq_getElem hl)]
        split
        · have hle : (thU T U l i).length ≤ (thU T U l (i + k)).length := by
            have := congrArg List.length ih
            rw [List.length_take] at this
            omega
          rw [List.take_append_of_le_length hle]
          exact ih
        · exact ih
      · rw [← Nat.add_assoc, thU_all (show l.length ≤ i + k + 1 by omega), ← thU_all hl]
        exact ih
  rcases Nat.lt_or_ge i l.length with hl | hl
  · have := h (l.length - i)
    rwa [show i + (l.length - i) = l.length by omega, thU_all (Nat.le_refl _)] at this
  · rw [thU_all hl, List.take_length]
theorem thU_id {T U : Int} {l : List Int} (h : KP T U l) (i : Nat) (hi : i ≤ l.length) : thU T U l i = l.take i := by
  induction i with
  | zero => rfl
  | succ i ih =>
    have hlt : i < l.length := by omega
    have e : l.take (i + 1) = l.take i ++ [l[i]] := by rw [List.take_add_one, List.getElem?_eq_getElem hlt]; rfl
    have hk : KP T U (l.take (i + 1)) := fun a b hab hE => by
      have hb := hE.lt.2
      have ha := hE.lt.1
      rw [List.length_take] at ha hb
      refine h a b hab ?_
      unfold Ey at hE ⊢
      rwa [List.getElem?_take_of_lt (by omega), List.getElem?_take_of_lt (by omega)] at hE
    rw [e] at hk
    have := (KP.snoc.1 hk).2
    rw [thU_step (List.getElem?_eq_getElem hlt), ih (by omega), if_pos this, e]
/-- All remain exactly if all keep to the limit. -/
theorem thin_all {T U : Int} {l : List Int} : KP T U l ↔ (thinF T U l).length = l.length := by
  constructor
  · intro h
    rw [← thU_all (Nat.le_refl _), thU_id h l.length (Nat.le_refl _), List.take_length]
  · intro h
    have e := (thin_sub T U l).eq_of_length h
    have := thU_keep T U l l.length
    rwa [thU_all (Nat.le_refl _), e] at this
theorem srt_sub {l m : List Int} (h : l.Sublist m) (hs : Srt m) : Srt l := by
  have hp : m.Pairwise (fun x y => x ≤ y) := by
    rw [List.pairwise_iff_getElem]
    intro i j hi hj hij
    exact hs.mono (Nat.le_of_lt hij) (List.getElem?_eq_getElem hi) (List.getElem?_eq_getElem hj)
  have hq := hp.sublist h
  intro i x y hx hy
  obtain ⟨hi, rfl⟩ := List.getElem?_eq_some_iff.1 hx
  obtain ⟨hj, rfl⟩ := List.getElem?_eq_some_iff.1 hy
  exact List.pairwise_iff_getElem.1 hq i (i + 1) hi hj (by omega)
theorem good_sub {l m : List Int} (h : l.Sublist m) (hg : Wi.Good m) : Wi.Good l :=
  ⟨Nat.le_trans h.length_le hg.len, fun x hx => hg.vld x (h.subset hx), srt_sub h hg.srt⟩
theorem both_sub {T U : Int} {l m : List Int} (h : l.Sublist m) (hb : bothE T U m = 0) : bothE T U l = 0 := by
  obtain ⟨h1, h2⟩ := bothE_ok hb
  unfold bothE
  rw [if_neg (by simp [h1])]
  exact Wi.chk_good.2 (good_sub h h2)
theorem keepsR_kp {T U : Int} {l : List Int} {i j : Int} {is : Bool} (h : KeepsR T U l i j is) : is = true ↔ KP T U l := by
  rcases h with ⟨rfl, -, -, h⟩ | ⟨rfl, a, b, -, -, hab, hE, -⟩
  · exact ⟨fun _ => h, fun _ => rfl⟩
  · exact ⟨fun h => (by cases h), fun h => absurd hE (h a b hab)⟩
/-- What would be asked of the next one. -/
theorem would {T U : Int} {l : List Int} {n : Nat} {x : Int} (hx : l[n]? = some x) {i j : Int} {is : Bool} (h : KeepsR T U (thU T U l n ++ [x]) i j is) : is = keepB T U (thU T U l n) x := by
  have h1 := (keepsR_kp h).trans KP.snoc
  have h2 := thU_keep T U l n
  cases is <;> cases hk : keepB T U (thU T U l n) x
  · rfl
  · exact absurd (h1.2 ⟨h2, hk⟩) (by simp)
  · have := (h1.1 rfl).2; rw [hk] at this; cases this
  · rfl
theorem thinF_len' (T U : Int) (l : List Int) : (thinF T U l).length ≤ l.length := (thin_sub T U l).length_le
theorem snoc_sub {T U : Int} {l : List Int} {n : Nat} {x : Int} (hx : l[n]? = some x) : (thU T U l n ++ [x]).Sublist l := by
  obtain ⟨hn, rfl⟩ := List.getElem?_eq_some_iff.1 hx
  have e : l.take (n + 1) = l.take n ++ [l[n]] := by rw [List.take_add_one, List.getElem?_eq_getElem hn]; rfl
  have h : (thU T U l n ++ [l[n]]).Sublist (l.take n ++ [l[n]]) := List.Sublist.append (thU_sub T U l n) (List.Sublist.refl _)
  rw [← e] at h
  exact h.trans (List.take_sublist _ _)
end Go.Proofs.Ytelgknecainlfaa

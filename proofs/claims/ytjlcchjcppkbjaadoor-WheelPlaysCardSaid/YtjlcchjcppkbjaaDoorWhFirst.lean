/- WhFirst: texts for the statements of this seat: contracts of functions, walks, plain laws. Conditions: none. -/
import Derived.Test.YtjlcchjcppkbjaaDoorWhFirL0
import Derived.Test.YtjlcchjcppkbjaaDoorWhFirL1
import Derived.Test.YtjlcchjcppkbjaaDoorWhFirL2
import Derived.Test.YtjlcchjcppkbjaaDoorWhFirL3
import Derived.Test.YtjlcchjcppkbjaaDoorWhFirL4
set_option linter.all false
/- first: the first list that is not empty, and since when its timers are. -/
namespace Go.Proofs.YtjlcchjcppkbjaaDoor
open Go.RowKit
variable {w : World} {wb base : Nat} {V : Nat → Value} {Q : Nat → List Pt} {kd : Nat → Nat} {fr : Int} {ts : List Pt}
structure FirstOk (fr : Int) (ts : List Pt) (Q : Nat → List Pt) (L s : Nat) (at_ : Int) : Prop where
  hL : L ≤ 4
  hs : s < 64
  hs4 : L = 4 → s = 0
  ne : Q (plc L s) ≠ []
  least : ∀ t ∈ Q (plc L s), ∀ u ∈ ts, u ∉ Q (plc L s) → t.x.at_ < u.x.at_
  lo : ∀ t ∈ ts, at_ ≤ t.x.at_
  zero : L = 0 → ∀ t ∈ Q (plc L s), t.x.at_ = at_
  gt : 0 < L → fr < at_
  ge : fr ≤ at_
def FirstPost (w : World) (fr : Int) (ts : List Pt) (Q : Nat → List Pt) (e : Ending) (w' : World) : Prop :=
  ((ts = [] ∧ e = .returned (.tuple #[.int .i64 0, .int .i64 0, .int .i64 0, .bool false])) ∨ ∃ (L s : Nat) (at_ : Int), FirstOk fr ts Q L s at_ ∧ e = .returned (.tuple #[.int .i64 L, .int .i64 s, .int .i64 at_, .bool true])) ∧ Kept (fun _ => False) w w'
theorem least_nat {P : Nat → Prop} : ∀ {n : Nat}, (∃ i, i < n ∧ P i) → ∃ i, i < n ∧ P i ∧ ∀ j, j < i → ¬ P j := by
  intro n
  induction n with
  | zero => rintro ⟨i, hi, -⟩; omega
  | succ n ih =>
    intro h
    by_cases h2 : ∃ i, i < n ∧ P i
    · obtain ⟨i, hi, hp, hl⟩ := ih h2
      exact ⟨i, by omega, hp, hl⟩
    · obtain ⟨i, hi, hp⟩ := h
      refine ⟨i, hi, hp, fun j hj hpj => h2 ⟨j, by omega, hpj⟩⟩
theorem Placed.at (M : Placed fr ts Q) {i : Nat} (hi : i < 257) {t : Pt} (ht : t ∈ Q i) : t ∈ ts ∧ i = pos fr t.x.at_ := by
  obtain ⟨h1, -, h2⟩ := M.sub i hi t ht
  exact ⟨h1, h2.elim id (fun h => h.1.elim)⟩
theorem Placed.in_ (M : Placed fr ts Q) {t : Pt} (ht : t ∈ ts) : t ∈ Q (pos fr t.x.at_) := by
  rcases M.all t ht with q | ⟨i, hi, q⟩
  · simp at q
  · have := (M.at hi q).2
    subst this; exact q
/-- In a level. -/
theorem firstOk_level (M : Placed fr ts Q) {L s : Nat} (hL : L < 4) (hs : s < 64) (hne : Q (64 * L + s) ≠ []) (hlow : ∀ j, j < 64 * L + s → Q j = []) : FirstOk fr ts Q L s (start fr L s) ∧ slt L fr ≤ s := by
  have hp : plc L s = 64 * L + s := by unfold plc; rw [if_neg (by omega)]
  have hin : ∀ t ∈ Q (64 * L + s), lvl fr t.x.at_ = L ∧ slt L t.x.at_ = s ∧ t ∈ ts := fun t ht => by
    obtain ⟨h1, h2⟩ := M.at (by omega) ht
    obtain ⟨h3, h4⟩ := lvl_of_pos hL hs h2.symm
    exact ⟨h3, h4, h1⟩
  have hcmp : ∀ t ∈ Q (64 * L + s), ∀ u ∈ ts, u ∉ Q (64 * L + s) → t.x.at_ < u.x.at_ := fun t ht u hu hnu => by
    obtain ⟨a1, a2, a3⟩ := hin t ht
    have hu2 := M.in_ hu
    have hfu := (M.rng u hu).1
    have hft := (M.rng t a3).1
    have hpu : ¬ pos fr u.x.at_ < 64 * L + s := fun q => by rw [hlow _ q] at hu2; simp at hu2
    have hpn : pos fr u.x.at_ ≠ 64 * L + s := fun q => hnu (by rw [← q]; exact hu2)
    by_cases hl : lvl fr u.x.at_ = L
    · have := pos_of_lvl hl hL
      have h5 := slt_start hL a1 hl (by rw [a2]; omega)
      have h6 := start_in hL hl
      omega
    · refine lvl_lt hft hfu ?_
      rw [a1]
      have h7 := lvl_le fr u.x.at_
      have h8 := slt_lt (lvl fr u.x.at_) u.x.at_
      rcases Nat.lt_or_ge (lvl fr u.x.at_) L with q | q
      · have := pos_of_lvl (rfl : lvl fr u.x.at_ = _) (by omega)
        omega
      · omega
  obtain ⟨t0, ht0⟩ := List.exists_mem_of_ne_nil _ hne
  obtain ⟨b1, b2, b3⟩ := hin t0 ht0
  have hf0 := (M.rng t0 b3).1
  have hlo : ∀ t ∈ ts, start fr L s ≤ t.x.at_ := fun t ht => by
    by_cases hm : t ∈ Q (64 * L + s)
    · obtain ⟨a1, a2, a3⟩ := hin t hm
      have := (start_in hL a1).1
      rw [a2] at this; exact this
    · have h1 := hcmp t0 ht0 t ht hm
      have h2 := (start_in hL b1).1
      rw [b2] at h2; omega
  refine ⟨{ hL := by omega, hs := hs, hs4 := fun h => by omega, ne := by rw [hp]; exact hne, least := by rw [hp]; exact hcmp, lo := hlo, zero := fun h0 => ?_, gt := fun h0 => ?_, ge := ?_ }, ?_⟩
  · rw [hp]
    intro t ht
    obtain ⟨a1, a2, a3⟩ := hin t ht
    subst h0
    rw [← a2]; exact (start_zero a1).symm
  · have := (start_gt hL h0 hf0 b1).1
    rw [b2] at this; exact this
  · rcases Nat.eq_zero_or_pos L with h0 | h0
    · subst h0
      have := start_zero b1
      rw [b2] at this; omega
    · have := (start_gt hL h0 hf0 b1).1
      rw [b2] at this; omega
  · have := slt_ge hL hf0 b1
    rw [b2] at this; exact this
theorem firstOk_far (M : Placed fr ts Q) (h0 : 0 ≤ fr) (hlow : ∀ j, j < 256 → Q j = []) {t : Pt} (ht : t ∈ Q 256) (hmin : ∀ u ∈ Q 256, ¬ u.x.lt t.x) : FirstOk fr ts Q 4 0 (t.x.at_ / 16777216 * 16777216) := by
  have hp : plc 4 0 = 256 := rfl
  obtain ⟨a1, a2⟩ := M.at (by omega) ht
  have hfar := far_start h0 (M.rng t a1).1 (lvl_of_far a2.symm)
  have hall : ∀ u ∈ ts, u ∈ Q 256 := fun u hu => by
    have h1 := M.in_ hu
    have h2 := pos_lt fr u.x.at_
    by_cases e : pos fr u.x.at_ = 256
    · rw [e] at h1; exact h1
    · rw [hlow _ (by omega)] at h1; simp at h1
  refine { hL := by omega, hs := by omega, hs4 := fun _ => rfl, ne := by rw [hp]; exact List.ne_nil_of_mem ht, least := fun u hu v hv hnv => ?_, lo := fun u hu => ?_, zero := fun h => by omega, gt := fun _ => hfar.1, ge := by omega }
  · exact absurd (hall v hv) (by rw [hp] at hnv; exact hnv)
  · have := hmin u (hall u hu)
    unfold Tm.lt at this
    omega
theorem first_c (hT : Tab w) (C : Core w wb base V Q kd fr) (M : Placed fr ts Q) (hf0 : 0 ≤ fr) (hf1 : fr ≤ 4611686018427387905) (hts : ts.length ≤ 1000000) :
    Calls Tryd.prog 42 #[.pointer (some ⟨wb, 0, none⟩)] w (FirstPost w fr ts Q) := by
  have go : ∀ {L s : Nat}, L < 4 → s < 64 → Q (64 * L + s) ≠ [] → (∀ j, j < 64 * L + s → Q j = []) → Calls Tryd.prog 42 #[.pointer (some ⟨wb, 0, none⟩)] w (FirstPost w fr ts Q) := fun {L s} hL hs hne hlow => by
    obtain ⟨h1, h2⟩ := firstOk_level M hL hs hne hlow
    match L, hL with
    | 0, _ => exact (first_0 hT C hf0 hf1 s hs hne hlow h2).mono fun e w' h => ⟨.inr ⟨0, s, _, h1, h.1⟩, h.2⟩
    | 1, _ => exact (first_1 hT C hf0 hf1 s hs hne hlow h2).mono fun e w' h => ⟨.inr ⟨1, s, _, h1, h.1⟩, h.2⟩
    | 2, _ => exact (first_2 hT C hf0 hf1 s hs hne hlow h2).mono fun e w' h => ⟨.inr ⟨2, s, _, h1, h.1⟩, h.2⟩
    | 3, _ => exact (first_3 hT C hf0 hf1 s hs hne hlow h2).mono fun e w' h => ⟨.inr ⟨3, s, _, h1, h.1⟩, h.2⟩
  by_cases hx : ∃ i, i < 256 ∧ Q i ≠ []
  · obtain ⟨i, hi, hne, hlow⟩ := least_nat hx
    have e : 64 * (i / 64) + i % 64 = i := by omega
    exact go (L := i / 64) (s := i % 64) (by omega) (by omega) (by rw [e]; exact hne) (fun j hj => by rw [e] at hj; exact Classical.not_not.1 (hlow j hj))
  · have hlow : ∀ j, j < 256 → Q j = [] := fun j hj => Classical.not_not.1 fun h => hx ⟨j, hj, h⟩
    by_cases he : Q 256 = []
    · have hnil : ts = [] := by
        refine List.eq_nil_iff_forall_not_mem.2 fun t ht => ?_
        have h1 := M.in_ ht
        have h2 := pos_lt fr t.x.at_
        by_cases e : pos fr t.x.at_ = 256
        · rw [e, he] at h1; simp at h1
        · rw [hlow _ (by omega)] at h1; simp at h1
      exact (first_none C hf0 hf1 hlow he).mono fun e w' h => ⟨.inl ⟨hnil, h.1⟩, h.2⟩
    · have hnd : (Q 256).Nodup := List.Pairwise.of_map Pt.b (fun a b h e => h (by rw [e])) (C.R.nd 256 (by omega))
      have hl := Nat.le_trans (len_sub hnd (fun x hx => (M.at (by omega) hx).1)) hts
      refine (first_far C hf0 hf1 hlow he hl (fun t ht => ?_)).mono ?_
      · have := M.rng t (M.at (by omega) ht).1; omega
      · rintro e w' ⟨t, ht, rfl, hmin, K⟩
        exact ⟨.inr ⟨4, 0, _, firstOk_far M hf0 hlow ht hmin, rfl⟩, K⟩
end Go.Proofs.YtjlcchjcppkbjaaDoor

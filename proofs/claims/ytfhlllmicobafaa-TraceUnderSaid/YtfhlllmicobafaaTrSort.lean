/- TrSort: texts for the statements of this seat: contracts of functions, walks, plain laws. Conditions: none. -/
import Derived.Sort.OwnSortedInts
import Derived.Test.YtfhlllmicobafaaTrShelf
import Derived.Test.YtfhlllmicobafaaTrLaun
set_option linter.all false
/- slices.Sort, Compact, Equal at numbers. -/
namespace Go.Proofs.Ytfhlllmicobafaa
open Go.RowKit Go.Sort

def srt (xs : List Int) : List Int := xs.mergeSort fun x y => decide (x ≤ y)
theorem srt_length (xs : List Int) : (srt xs).length = xs.length := List.length_mergeSort _
theorem srt_perm (l : List Int) : (srt l).Perm l := List.mergeSort_perm l _
theorem srt_sorted (l : List Int) : (srt l).Pairwise (· ≤ ·) := by
  have := List.pairwise_mergeSort (le := fun x y : Int => decide (x ≤ y)) (by intro a b c; simp; omega) (by intro a b; simp; omega) l
  unfold srt
  simpa using this
def SortPost (base e : Nat) (v : Value) (xs : List Int) (w : World) (r : Ending) (w' : World) : Prop :=
  r = .returned (.tuple #[]) ∧ w'.ownsRow base e 1 v xs.length ((srt xs).map (Value.int .i64)) ∧ Kept (fun b => v.ownBlock = some b) w w'
theorem sort49_c {w : World} {base e : Nat} {v : Value} (xs : List Int) (hl : xs.length ≤ 1000000000) (hown : w.ownsRow base e 1 v xs.length (xs.map (Value.int .i64))) :
    Calls Try.prog 49 #[v] w (SortPost base e v xs w) := by
  rcases hown.2 with ⟨rfl, h0⟩ | ⟨g, cap, cur, rfl, hg, hh, h1, h2, h3, h4⟩
  · obtain rfl : xs = [] := List.eq_nil_of_length_eq_zero h0
    refine (Try.slices_Sort_int_none none 0 w).mono ?_
    rintro e w' ⟨rfl, rfl⟩
    exact ⟨rfl, by rw [show srt [] = [] from by simp [srt]]; exact World.ownsRow_nil _ _ _ _, Kept.refl _ _⟩
  · have hbl : g < w.heap.size := (Array.getElem?_eq_some_iff.1 hh).1
    rw [Nat.mul_one] at h4
    refine (Try.slices_Sort_int g 0 cap xs w (holds_of_blockI hh h4) hbl (by omega)).mono ?_
    rintro e w' ⟨rfl, n, os, rfl⟩
    exact ⟨rfl, ownsRow_sortedI (srt_length xs) hg hh h1 h2 h3, (Kept.of_grown (grownBy_sortedI _)).mono (fun i _ h => by simp [Value.ownBlock]; exact Option.some.inj h)⟩
theorem sort41_c {w : World} {base e : Nat} {v : Value} (xs : List Int) (hl : xs.length ≤ 1000000000) (hown : w.ownsRow base e 1 v xs.length (xs.map (Value.int .i64))) :
    Calls Try.prog 41 #[v] w (SortPost base e v xs w) := by
  rcases hown.2 with ⟨rfl, h0⟩ | ⟨g, cap, cur, rfl, hg, hh, h1, h2, h3, h4⟩
  · obtain rfl : xs = [] := List.eq_nil_of_length_eq_zero h0
    refine (Try.slices_Sort_int_none_f41 none 0 w).mono ?_
    rintro e w' ⟨rfl, rfl⟩
    exact ⟨rfl, by rw [show srt [] = [] from by simp [srt]]; exact World.ownsRow_nil _ _ _ _, Kept.refl _ _⟩
  · have hbl : g < w.heap.size := (Array.getElem?_eq_some_iff.1 hh).1
    rw [Nat.mul_one] at h4
    refine (Try.slices_Sort_int_f41 g 0 cap xs w (holds_of_blockI hh h4) hbl (by omega)).mono ?_
    rintro e w' ⟨rfl, n, os, rfl⟩
    exact ⟨rfl, ownsRow_sortedI (srt_length xs) hg hh h1 h2 h3, (Kept.of_grown (grownBy_sortedI _)).mono (fun i _ h => by simp [Value.ownBlock]; exact Option.some.inj h)⟩
/-- What is compacted of a sorted list. -/
theorem compact_inv (zs : List Int) (hs : zs.Pairwise (· ≤ ·)) : ∀ m, m ≤ zs.length → (Lib.compactUpTo zs.toArray m).Pairwise (· < ·) ∧ ∀ z, z ∈ Lib.compactUpTo zs.toArray m ↔ z ∈ zs.take m := by
  intro m
  induction m with
  | zero => intro _; simp [Lib.compactUpTo]
  | succ m ih =>
    intro hm
    obtain ⟨h1, h2⟩ := ih (by omega)
    have hx : zs[m]? = some zs[m] := List.getElem?_eq_getElem (by omega)
    have hd : zs.toArray[m]! = zs[m] := by simp [hx]
    have ht : zs.take (m + 1) = zs.take m ++ [zs[m]] := List.take_succ_eq_append_getElem (by omega)
    have hle : ∀ z ∈ zs.take m, z ≤ zs[m] := by
      have := hs.sublist (List.take_sublist (m + 1) zs)
      rw [ht, List.pairwise_append] at this
      exact fun z hz => this.2.2 z hz _ (List.mem_singleton_self _)
    rw [Lib.compactUpTo_succ, ht]
    by_cases hk : Lib.keeps zs.toArray m = true
    · rw [if_pos hk, hd]
      constructor
      · rw [List.pairwise_append]
        refine ⟨h1, by simp, fun a ha b hb => ?_⟩
        simp at hb; subst hb
        have ha' := (h2 a).1 ha
        have hle' := hle a ha'
        rcases Nat.eq_zero_or_pos m with h0 | h0
        · subst h0; simp at ha'
        · have hne : zs[m] ≠ zs[m - 1] := by
            have := hk
            simp only [Lib.keeps, decide_eq_true_eq] at this
            rcases this with q | q
            · omega
            · rw [hd] at q
              have hd1 : zs.toArray[m - 1]! = zs[m - 1] := by simp [List.getElem?_eq_getElem (show m - 1 < zs.length by omega)]
              rwa [hd1] at q
          have hlt : zs[m - 1] < zs[m] := by
            have : zs[m - 1] ≤ zs[m] := hle _ (by
              have : (zs.take m)[m - 1]? = some zs[m - 1] := by rw [List.getElem?_take_of_lt (by omega)]; exact List.getElem?_eq_getElem (by omega)
              exact List.mem_of_getElem? this)
            omega
          have hal : a ≤ zs[m - 1] := by
            obtain ⟨i, hi⟩ := List.getElem?_of_mem ha'
            have hil := (List.getElem?_eq_some_iff.1 hi).1
            rw [List.length_take] at hil
            rw [List.getElem?_take_of_lt (by omega), List.getElem?_eq_getElem (by omega)] at hi
            injection hi with hi
            rcases Nat.lt_or_ge i (m - 1) with q | q
            · have := List.pairwise_iff_getElem.1 hs i (m - 1) (by omega) (by omega) q
              omega
            · obtain rfl : i = m - 1 := by omega
              omega
          omega
      · intro z
        rw [List.mem_append, List.mem_append, h2]
    · rw [if_neg hk, List.append_nil]
      refine ⟨h1, fun z => ?_⟩
      rw [h2, List.mem_append]
      constructor
      · exact .inl
      · rintro (h | h)
        · exact h
        · simp at h; subst h
          have hm0 : 0 < m := by
            rcases Nat.eq_zero_or_pos m with h0 | h0
            · subst h0; simp [Lib.keeps] at hk
            · exact h0
          have heq : zs[m] = zs[m - 1] := by
            have := hk
            simp only [Lib.keeps, decide_eq_true_eq, not_or, Decidable.not_not] at this
            have q := this.2
            have hd1 : zs.toArray[m - 1]! = zs[m - 1] := by simp [List.getElem?_eq_getElem (show m - 1 < zs.length by omega)]
            rwa [hd, hd1] at q
          rw [heq]
          have : (zs.take m)[m - 1]? = some zs[m - 1] := by rw [List.getElem?_take_of_lt (by omega)]; exact List.getElem?_eq_getElem (by omega)
          exact List.mem_of_getElem? this
theorem compact_firsts {job : Int} {l : List Tr.Ev} {s : List Int} (hp : s.Perm (Tr.dues job l)) (hs : s.Pairwise (· ≤ ·)) : Lib.compact s = Tr.firstsR job l := by
  obtain ⟨h1, h2⟩ := Tr.insAll (Tr.dues job l) [] List.Pairwise.nil
  obtain ⟨h3, h4⟩ := compact_inv s hs s.length (Nat.le_refl _)
  refine Tr.lt_ext h3 h1 fun z => ?_
  show z ∈ Lib.compactUpTo s.toArray s.length ↔ _
  rw [h4, List.take_of_length_le (Nat.le_refl _), hp.mem_iff]
  unfold Tr.firstsR
  rw [h2]
  simp
/-- The first m of a row. -/
theorem ownsRow_first {w : World} {base e g n cap : Nat} {xs : List Value} (h : w.ownsRow base e 1 (.slice (some ⟨g, 0, none⟩) n cap) n xs) {m : Nat} (hm : m ≤ n) : w.ownsRow base e 1 (.slice (some ⟨g, 0, none⟩) m cap) m (xs.take m) := by
  have hl := h.1
  rcases h.2 with ⟨q, -⟩ | ⟨g', cap', cur, q, hg, hh, h1, h2, h3, h4⟩
  · cases q
  · injection q with q q2 q3
    injection q with q
    injection q with q
    subst q q3
    refine ⟨by rw [List.length_take]; omega, .inr ⟨g, cap, cur, rfl, hg, hh, by omega, h2, h3, ?_⟩⟩
    rw [← h4, List.take_take, Nat.min_eq_left (by omega), Nat.mul_one]
def CompPost (base e : Nat) (v : Value) (xs : List Int) (w : World) (r : Ending) (w' : World) : Prop :=
  ∃ v', r = .returned v' ∧ w'.ownsRow base e 1 v' (Lib.compact xs).length ((Lib.compact xs).map (Value.int .i64)) ∧ Kept (fun b => v.ownBlock = some b) w w'
theorem compact_len (xs : List Int) : (Lib.compact xs).length ≤ xs.length := by
  unfold Lib.compact Lib.compactUpTo
  rw [List.length_map]
  have := List.length_filter_le (Lib.keeps xs.toArray) (List.range xs.length)
  simpa using this
theorem compact42_c {w : World} {base e : Nat} {v : Value} (xs : List Int) (hl : xs.length ≤ 1000000000) (hown : w.ownsRow base e 1 v xs.length (xs.map (Value.int .i64))) :
    Calls Try.prog 42 #[v] w (CompPost base e v xs w) := by
  rcases hown.2 with ⟨rfl, h0⟩ | ⟨g, cap, cur, rfl, hg, hh, h1, h2, h3, h4⟩
  · obtain rfl : xs = [] := List.eq_nil_of_length_eq_zero h0
    refine (Try.slices_Compact_int_empty none 0 w).mono ?_
    rintro e w' ⟨rfl, rfl⟩
    exact ⟨_, rfl, World.ownsRow_nil _ _ _ _, Kept.refl _ _⟩
  · rw [Nat.mul_one] at h4
    refine (Try.slices_Compact_int g 0 cap xs w (holds_of_blockI hh h4) (by omega) h1).mono ?_
    rintro r w' ⟨rfl, q, rfl⟩
    have hcl := compact_len xs
    have hll : (Lib.compact xs ++ List.replicate (xs.length - (Lib.compact xs).length) 0).length = xs.length := by rw [List.length_append, List.length_replicate]; omega
    have ho := ownsRow_sortedI (w := w) (base := base) (n := q) (e := e) (os := #[]) hll hg hh h1 h2 h3
    have hk := grownBy_sortedI (w := w) (g := g) (n := q) (os := #[]) (Lib.compact xs ++ List.replicate (xs.length - (Lib.compact xs).length) 0).toArray
    rw [grow_empty] at ho hk
    refine ⟨_, rfl, ?_, (Kept.of_grown hk).mono (fun i _ h => by simp [Value.ownBlock]; exact Option.some.inj h)⟩
    have := ownsRow_first ho hcl
    rw [← List.map_take, List.take_left' rfl] at this
    exact this
theorem equal19_c {w : World} {va vb : Value} {xs ys : List Int} (h1 : Ints w va xs) (h2 : Ints w vb ys) (hm : xs.length ≤ 1000000) (hn : ys.length ≤ 1000000) :
    Calls Try.prog 19 #[va, vb] w fun r w' => r = .returned (.bool (decide (xs = ys))) ∧ ∃ q, w' = w.drewN q := by
  by_cases hl : xs.length = ys.length
  · rcases Nat.eq_zero_or_pos xs.length with h0 | h0
    · obtain ⟨a1, c1, rfl⟩ := h1.len
      obtain ⟨a2, c2, rfl⟩ := h2.len
      obtain rfl : xs = [] := List.eq_nil_of_length_eq_zero h0
      obtain rfl : ys = [] := List.eq_nil_of_length_eq_zero hl.symm
      refine (Try.slices_Equal_int_empty a1 a2 c1 0 c2 w (by omega)).mono ?_
      rintro r w' ⟨rfl, rfl⟩
      exact ⟨by simp, 0, rfl⟩
    · obtain ⟨b1, o1, c1, rfl, -, hc1⟩ := h1.pos h0
      obtain ⟨b2, o2, c2, rfl, -, hc2⟩ := h2.pos (by omega)
      refine (Try.slices_Equal_int b1 o1 xs.length c1 b2 o2 ys.length c2 xs ys w (Nat.le_refl _) (Nat.le_refl _) (by omega) (by omega) (fun j hj => hc1 j _ (by rw [List.getD_eq_getElem?_getD, List.getElem?_eq_getElem hj]; rfl)) (fun j hj => hc2 j _ (by rw [List.getD_eq_getElem?_getD, List.getElem?_eq_getElem hj]; rfl))).mono ?_
      rintro r w' ⟨rfl, h⟩
      refine ⟨?_, h⟩
      rw [List.take_of_length_le (Nat.le_refl _), List.take_of_length_le (Nat.le_refl _)]
      have e : (xs == ys) = decide (xs = ys) := by rw [Bool.eq_iff_iff]; simp
      rw [e]
  · obtain ⟨a1, c1, rfl⟩ := h1.len
    obtain ⟨a2, c2, rfl⟩ := h2.len
    refine (Try.slices_Equal_int_lens a1 a2 xs.length c1 ys.length c2 w hl).mono ?_
    rintro r w' ⟨rfl, rfl⟩
    refine ⟨?_, 0, rfl⟩
    rw [decide_eq_false (fun q => hl (by rw [q]))]
theorem equal28_c {w : World} {va vb : Value} {xs ys : List Int} (h1 : Ints w va xs) (h2 : Ints w vb ys) (hm : xs.length ≤ 1000000) (hn : ys.length ≤ 1000000) :
    Calls Try.prog 28 #[va, vb] w fun r w' => r = .returned (.bool (decide (xs = ys))) ∧ ∃ q, w' = w.drewN q := by
  by_cases hl : xs.length = ys.length
  · rcases Nat.eq_zero_or_pos xs.length with h0 | h0
    · obtain ⟨a1, c1, rfl⟩ := h1.len
      obtain ⟨a2, c2, rfl⟩ := h2.len
      obtain rfl : xs = [] := List.eq_nil_of_length_eq_zero h0
      obtain rfl : ys = [] := List.eq_nil_of_length_eq_zero hl.symm
      refine (Try.slices_Equal_int_empty_f28 a1 a2 c1 0 c2 w (by omega)).mono ?_
      rintro r w' ⟨rfl, rfl⟩
      exact ⟨by simp, 0, rfl⟩
    · obtain ⟨b1, o1, c1, rfl, -, hc1⟩ := h1.pos h0
      obtain ⟨b2, o2, c2, rfl, -, hc2⟩ := h2.pos (by omega)
      refine (Try.slices_Equal_int_f28 b1 o1 xs.length c1 b2 o2 ys.length c2 xs ys w (Nat.le_refl _) (Nat.le_refl _) (by omega) (by omega) (fun j hj => hc1 j _ (by rw [List.getD_eq_getElem?_getD, List.getElem?_eq_getElem hj]; rfl)) (fun j hj => hc2 j _ (by rw [List.getD_eq_getElem?_getD, List.getElem?_eq_getElem hj]; rfl))).mono ?_
      rintro r w' ⟨rfl, h⟩
      refine ⟨?_, h⟩
      rw [List.take_of_length_le (Nat.le_refl _), List.take_of_length_le (Nat.le_refl _)]
      have e : (xs == ys) = decide (xs = ys) := by rw [Bool.eq_iff_iff]; simp
      rw [e]
  · obtain ⟨a1, c1, rfl⟩ := h1.len
    obtain ⟨a2, c2, rfl⟩ := h2.len
    have HE : Hid (decide (xs = ys) = false) := Lib.hid (decide_eq_false (fun q => hl (by rw [q])))
    generalize xs.length = n at *
    generalize ys.length = m at *
    have hne : ((n : Int) != (m : Int)) = true := by simp; omega
    clear h1 h2
    go_enter Try.func28, Try.ntmps28
    go_wp2
    go_ret
    exact ⟨by rw [HE.out]; rfl, 0, rfl⟩
end Go.Proofs.Ytfhlllmicobafaa

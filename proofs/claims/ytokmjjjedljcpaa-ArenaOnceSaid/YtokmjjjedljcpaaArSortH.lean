/- ArSortH: texts for the statements of this seat: contracts of functions, walks, plain laws. Conditions: none. -/
import Derived.Test.YtokmjjjedljcpaaArSortNone
import Derived.Test.YtokmjjjedljcpaaArOnceCmp
import Derived.Test.YtokmjjjedljcpaaArSlices
namespace Go.Proofs.Ytokmjjjedljcpaa
open Go.RowKit Go.Shelf Go.Sort

instance : Inhabited N63 := ⟨⟨0, by omega⟩⟩
def toN (x : Int) : N63 := ⟨(x.toNat : Int), by omega⟩
theorem toN_val {x : Int} (h : 0 ≤ x) : (toN x).1 = x := by unfold toN; simp; omega
theorem cmp_lt (x y : N63) : ltOf cmpH x y = decide (x.1 % 4096 < y.1 % 4096) := by
  unfold ltOf cmpH
  simp only [decide_eq_decide]; omega
theorem cmp_swo : SWO (ltOf cmpH) where
  irrefl x := by rw [cmp_lt]; simp
  trans x y z h1 h2 := by rw [cmp_lt] at *; simp at *; omega
  ntrans x y z h1 h2 := by rw [cmp_lt] at *; simp at *; omega

theorem grown_sort {α : Type} [Inhabited α] {enc : α → Value} {w : World} {g off n : Nat} {os : Array Obj} (d : Array α) : w.grownBy (sortWorld enc w g off n d os) (some g) := by
  unfold sortWorld
  refine ⟨rfl, rfl, rfl, by simp, fun k hk hne => ?_⟩
  rw [heap_grow_old _ _ (by simpa using hk)]
  have : g ≠ k := fun e => hne (by rw [e])
  simp [putRow, mapBlock, Sort.ahead, Array.getElem?_modify, this]

theorem eg27 : ∀ args w, (callFunc 27 args).run Try.prog w = .ok (.enter 27 args) w := enters_of Try.func27 (by kernel_rfl) rfl

theorem sort_c {w : World} {base : Nat} {v : Value} (xs : List Int) (hx : ∀ x ∈ xs, 0 ≤ x) (hl : xs.length ≤ 1000000) (hown : w.ownsRow base 27 1 v xs.length (xs.map (Value.int .i64))) :
    Calls Try.prog 26 #[v, .func (.func 27) #[] #[]] w fun e w' => e = .returned (.tuple #[]) ∧ ∃ d : List Int, d.Perm xs ∧ d.Pairwise (fun x y => x % 4096 ≤ y % 4096) ∧ Ints w' v d ∧ Kept (fun b => v.ownBlock = some b) w w' := by
  rcases hown.2 with ⟨rfl, h0⟩ | ⟨g, cap, cur, rfl, hg, hh, h1, h2, h3, h4⟩
  · obtain rfl : xs = [] := List.eq_nil_of_length_eq_zero h0
    refine (sort_none none 0 _ w).mono ?_
    rintro e w' ⟨rfl, rfl⟩
    exact ⟨rfl, [], List.Perm.refl _, List.Pairwise.nil, .inl ⟨rfl, rfl⟩, Kept.refl _ _⟩
  · have hbl : g < w.heap.size := (Array.getElem?_eq_some_iff.1 hh).1
    have hH : Holds encH w g 0 (xs.map toN).toArray := by
      intro j hj
      have hj' : j < xs.length := by simpa using hj
      refine ⟨?_, by simp [World.frozen?, hh]⟩
      rw [Nat.zero_add, hown.cellAt j (by omega), List.getElem?_map, List.getElem?_eq_getElem hj']
      simp only [Option.map_some, Option.some.injEq]
      rw [getElem!_pos _ j hj]
      simp only [List.getElem_toArray, List.getElem_map, encH]
      rw [toN_val (hx _ (List.getElem_mem hj'))]
    have hsz : (xs.map toN).toArray.size = xs.length := by simp
    have hc := Any.slices_SortFunc Try.sortH encH (fun _ => rfl) cmpH cmp_swo 27 #[] g 0 cap (xs.map toN).toArray w eg27 (CmpReads.lays fun m os dk hs x y => cmp_c x y _) hH hbl (by rw [hsz]; omega)
    rw [hsz] at hc
    refine Calls.mono hc ?_
    rintro e w' ⟨rfl, d', n, os, hp, hs, rfl⟩
    have hd' : d'.size = xs.length := by rw [hp.1, hsz]
    have hperm : d'.toList.Perm (xs.map toN) := by
      have := hp.2.2
      have e1 : d'.extract 0 xs.length = d' := by rw [← hd']; simp
      have e2 : (xs.map toN).toArray.extract 0 xs.length = (xs.map toN).toArray := by simp [List.take_of_length_le]
      rw [e1, e2] at this
      simpa using this
    refine ⟨rfl, d'.toList.map Subtype.val, ?_, ?_, ?_, ?_⟩
    · have := hperm.map Subtype.val
      refine this.trans ?_
      rw [List.map_map]
      have : (xs.map (Subtype.val ∘ toN)) = xs.map id := List.map_congr_left fun x h => toN_val (hx x h)
      rw [this, List.map_id]
    · rw [List.pairwise_map, List.pairwise_iff_getElem]
      intro i j hi hj hij
      have hi' : i < d'.size := by simpa using hi
      have hj' : j < d'.size := by simpa using hj
      have := hs i j (by omega) hij (by omega)
      rw [getElem!_pos _ i hi', getElem!_pos _ j hj', cmp_lt] at this
      simp at this
      simpa using this
    · refine .inr ⟨g, 0, cap, by simp [hd'], Nat.lt_of_lt_of_le hbl (grown_sort d').size, ?_⟩
      intro j x hj
      obtain ⟨q, hq, rfl⟩ := List.getElem?_eq_some_iff.1 hj
      have hjd : j < d'.size := by simpa using q
      unfold sortWorld
      have hb2 : g < (putRow encH (Sort.ahead w n) g 0 d').heap.size := by simpa using hbl
      rw [cell?_grow _ _ _ hb2]
      have hH2 : Holds encH (Sort.ahead w n) g 0 (xs.map toN).toArray := hH
      have := (holds_putRow encH (Sort.ahead w n) g 0 (xs.map toN).toArray d' hH2 (by rw [hd', hsz]) j hjd).1
      rw [this, getElem!_pos _ j hjd]
      simp [encH]
    · have := Kept.of_grown (grown_sort (enc := encH) (w := w) (g := g) (off := 0) (n := n) (os := os) d')
      refine this.mono fun i hi => ?_
      simp [Value.ownBlock]
end Go.Proofs.Ytokmjjjedljcpaa

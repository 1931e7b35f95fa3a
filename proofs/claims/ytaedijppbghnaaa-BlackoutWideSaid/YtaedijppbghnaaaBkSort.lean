/- slices.SortFunc at the borders. -/
import Derived.Test.YtaedijppbghnaaaBkLay
import Derived.Test.YtaedijppbghnaaaBkCmp
namespace Go.Proofs.Ytaedijppbghnaaa
open Go.RowKit Go.Shelf Go.Sort

theorem grown_sortG {α : Type} [Inhabited α] {enc : α → Value} {w : World} {g off n : Nat} {os : Array Obj} (d : Array α) : w.grownBy (sortWorld enc w g off n d os) (some g) := by
  unfold sortWorld
  refine ⟨rfl, rfl, rfl, by simp, fun k hk hne => ?_⟩
  rw [heap_grow_old _ _ (by simpa using hk)]
  have : g ≠ k := fun e => hne (by rw [e])
  simp [putRow, mapBlock, Sort.ahead, Array.getElem?_modify, this]
theorem grown_sortK {α : Type} [Inhabited α] {enc : α → List Value} {k : Nat} {w : World} {g off n : Nat} {os : Array Obj} (d : Array α) : w.grownBy (sortWorldK enc k w g off n d os) (some g) :=
  grown_sortG (enc := id) (flatK enc k d)

theorem eg60 : ∀ args w, (callFunc 60 args).run Try.prog w = .ok (.enter 60 args) w := enters_of Try.func60 (by kernel_rfl) rfl

theorem tc_at {xs : List T3} {t : Nat} (h : t < xs.length * 3) : (tc xs)[t]? = some ((encB xs.toArray[t / 3]!)[t % 3]!) := by
  have hj : t / 3 < xs.length := by omega
  have := tc_get (List.getElem?_eq_getElem hj)
  have he : xs.toArray[t / 3]! = xs[t / 3] := by rw [getElem!_pos _ _ (by simpa using hj)]; simp
  rw [he]
  have e : (tc xs)[t]? = (tc xs)[t / 3 * 3 + t % 3]? := congrArg (fun i => (tc xs)[i]?) (by omega)
  rw [e]
  have hm : t % 3 = 0 ∨ t % 3 = 1 ∨ t % 3 = 2 := by omega
  rcases hm with hm | hm | hm <;> rw [hm]
  · exact this.1
  · exact this.2.1
  · exact this.2.2

theorem sortB_c {w : World} {base : Nat} {v : Value} (xs : List T3) (hl : xs.length ≤ 1000000) (hown : w.ownsRow base 76 3 v xs.length (tc xs)) :
    Calls Try.prog 59 #[v, .func (.func 60) #[] #[]] w fun e w' => e = .returned (.tuple #[]) ∧ ∃ d : List T3, d.Perm xs ∧ d.Pairwise (fun x y => x.1 ≤ y.1) ∧ Trs w' v d ∧ Kept (fun b => v.ownBlock = some b) w w' := by
  rcases hown.2 with ⟨rfl, h0⟩ | ⟨g, cap, cur, rfl, hg, hh, h1, h2, h3, h4⟩
  · obtain rfl : xs = [] := List.eq_nil_of_length_eq_zero h0
    refine Calls.mono (AnyF.slices_SortFunc_none Try.sortB none 0 _ w) ?_
    rintro e w' ⟨rfl, rfl⟩
    exact ⟨rfl, [], List.Perm.refl _, List.Pairwise.nil, .inl ⟨none, 0, rfl, rfl⟩, Kept.refl _ _⟩
  · have hbl : g < w.heap.size := (Array.getElem?_eq_some_iff.1 hh).1
    have hH : HoldsK encB 3 w g 0 xs.toArray := by
      intro t ht
      have ht' : t < xs.length * 3 := by simpa using ht
      refine ⟨?_, by simp [World.frozen?, hh]⟩
      rw [Nat.zero_add, hown.cellAt t (by omega), tc_at ht', get_flatK _ _ _ _ (by simpa using ht')]
      rfl
    have hsz : xs.toArray.size = xs.length := by simp
    have hc := AnyQ.slices_SortFunc Try.sortB 3 Try.isAgg76 Try.sizeOf76 encB (fun _ => rfl) (fun x v hv => by simp [encB] at hv; rcases hv with rfl | rfl | rfl <;> rfl) cmpB cmpB_swo 60 #[] g 0 cap xs.toArray w eg60 (cmpB_lays g 0 xs.toArray.size w) hH hbl (by rw [hsz]; omega)
    rw [hsz] at hc
    refine Calls.mono hc ?_
    rintro e w' ⟨rfl, d', n, os, hp, hs, rfl⟩
    have hd' : d'.size = xs.length := by rw [hp.1, hsz]
    have hperm : d'.toList.Perm xs := by
      have := hp.2.2
      have e1 : d'.extract 0 xs.length = d' := by rw [← hd']; simp
      have e2 : xs.toArray.extract 0 xs.length = xs.toArray := by simp [List.take_of_length_le]
      rw [e1, e2] at this
      simpa using this
    refine ⟨rfl, d'.toList, hperm, ?_, ?_, ?_⟩
    · rw [List.pairwise_iff_getElem]
      intro i j hi hj hij
      have hi' : i < d'.size := by simpa using hi
      have hj' : j < d'.size := by simpa using hj
      have := hs i j (by omega) hij (by omega)
      rw [getElem!_pos _ i hi', getElem!_pos _ j hj', cmpB_lt] at this
      simp at this
      simpa using this
    · refine .inr ⟨g, 0, cap, by simp [hd'], by simp [hd']; exact h1, Nat.lt_of_lt_of_le hbl (grown_sortK d').size, ?_⟩
      have hH' := holdsK_sortWorldK_c encB 3 w g 0 xs.toArray d' n os hH hbl (by rw [hd', hsz])
      intro j x hj
      obtain ⟨q, hq, rfl⟩ := List.getElem?_eq_some_iff.1 hj
      have hjd : j < d'.size := by simpa using q
      have he : d'[j]! = d'.toList[j] := by rw [getElem!_pos d' j hjd]; simp
      have c0 := (HoldsK.cell hH' hjd (c := 0) (by omega)).1
      have c1 := (HoldsK.cell hH' hjd (c := 1) (by omega)).1
      have c2 := (HoldsK.cell hH' hjd (c := 2) (by omega)).1
      rw [he] at c0 c1 c2
      exact ⟨c0, c1, c2⟩
    · have := Kept.of_grown (grown_sortK (enc := encB) (k := 3) (w := w) (g := g) (off := 0) (n := n) (os := os) d')
      refine this.mono fun i hi => ?_
      simp [Value.ownBlock]
end Go.Proofs.Ytaedijppbghnaaa

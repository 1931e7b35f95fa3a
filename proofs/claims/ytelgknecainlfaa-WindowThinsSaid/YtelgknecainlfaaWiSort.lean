/- WiSort: texts for the statements of this seat: contracts of functions, walks, plain laws. Conditions: none. -/
import Derived.Test.YtelgknecainlfaaWiLay
import Derived.Test.YtelgknecainlfaaWiTurn
set_option linter.all false
/- slices.SortFunc at turns. -/
namespace Go.Proofs.Ytelgknecainlfaa
open Go.RowKit Go.Shelf Go.Sort

theorem grown_sortG {α : Type} [Inhabited α] {enc : α → Value} {w : World} {g off n : Nat} {os : Array Obj} (d : Array α) : w.grownBy (sortWorld enc w g off n d os) (some g) := by
  unfold sortWorld
  refine ⟨rfl, rfl, rfl, by simp, fun k hk hne => ?_⟩
  rw [heap_grow_old _ _ (by simpa using hk)]
  have : g ≠ k := fun e => hne (by rw [e])
  simp [putRow, mapBlock, Sort.ahead, Array.getElem?_modify, this]
theorem grown_sortK {α : Type} [Inhabited α] {enc : α → List Value} {k : Nat} {w : World} {g off n : Nat} {os : Array Obj} (d : Array α) : w.grownBy (sortWorldK enc k w g off n d os) (some g) :=
  grown_sortG (enc := id) (flatK enc k d)

theorem eg59 : ∀ args w, (callFunc 59 args).run Try.prog w = .ok (.enter 59 args) w := enters_of Try.func59 (by kernel_rfl) rfl

theorem tw_at {xs : List T2} {t : Nat} (h : t < xs.length * 2) : (tw xs)[t]? = some ((encW xs.toArray[t / 2]!)[t % 2]!) := by
  have hj : t / 2 < xs.length := by omega
  have := tw_get (List.getElem?_eq_getElem hj)
  have he : xs.toArray[t / 2]! = xs[t / 2] := by rw [getElem!_pos _ _ (by simpa using hj)]; simp
  rw [he]
  have e : (tw xs)[t]? = (tw xs)[t / 2 * 2 + t % 2]? := congrArg (fun i => (tw xs)[i]?) (by omega)
  rw [e]
  have hm : t % 2 = 0 ∨ t % 2 = 1 := by omega
  rcases hm with hm | hm <;> rw [hm]
  · exact this.1
  · exact this.2

theorem sortW_c {w : World} {base : Nat} {v : Value} (xs : List T2) (hl : xs.length ≤ 1000000) (hown : w.ownsRow base 62 2 v xs.length (tw xs)) :
    Calls Try.prog 58 #[v, .func (.func 59) #[] #[]] w fun e w' => e = .returned (.tuple #[]) ∧ ∃ d : List T2, d.Perm xs ∧ d.Pairwise (fun x y => ltW y x = false) ∧ Tws w' v d ∧ Kept (fun b => v.ownBlock = some b) w w' := by
  rcases hown.2 with ⟨rfl, h0⟩ | ⟨g, cap, cur, rfl, hg, hh, h1, h2, h3, h4⟩
  · obtain rfl : xs = [] := List.eq_nil_of_length_eq_zero h0
    refine Calls.mono (AnyF.slices_SortFunc_none Try.sortW none 0 _ w) ?_
    rintro e w' ⟨rfl, rfl⟩
    exact ⟨rfl, [], List.Perm.refl _, List.Pairwise.nil, .inl ⟨none, 0, rfl, rfl⟩, Kept.refl _ _⟩
  · have hbl : g < w.heap.size := (Array.getElem?_eq_some_iff.1 hh).1
    have hH : HoldsK encW 2 w g 0 xs.toArray := by
      intro t ht
      have ht' : t < xs.length * 2 := by simpa using ht
      refine ⟨?_, by simp [World.frozen?, hh]⟩
      rw [Nat.zero_add, hown.cellAt t (by omega), tw_at ht', get_flatK _ _ _ _ (by simpa using ht')]
      rfl
    have hsz : xs.toArray.size = xs.length := by simp
    have hc := AnyQ.slices_SortFunc Try.sortW 2 Try.isAgg62 Try.sizeOf62 encW (fun _ => rfl) (fun x v hv => by simp [encW] at hv; rcases hv with rfl | rfl <;> rfl) cmpW cmpW_swo 59 #[] g 0 cap xs.toArray w eg59 (cmpW_lays g 0 xs.toArray.size w) hH hbl (by rw [hsz]; omega)
    rw [hsz] at hc
    refine Calls.mono hc ?_
    rintro e w' ⟨rfl, d', n, os, hp, hs, rfl⟩
    have hd' : d'.size = xs.length := by rw [hp.1, hsz]
    have hperm : d'.toList.Perm xs := by
      have := hp.2.2
      have e1 : d'.extract 0 xs.length = d' := by rw [← hd']; simp
      have e2 : xs.toArray.extract 0 xs.length = xs.toArray := by simp [List.take_of_length_le]
      rw [e1, e2] at this
      simpa using this
    refine ⟨rfl, d'.toList, hperm, ?_, ?_, ?_⟩
    · rw [List.pairwise_iff_getElem]
      intro i j hi hj hij
      have hi' : i < d'.size := by simpa using hi
      have hj' : j < d'.size := by simpa using hj
      have := hs i j (by omega) hij (by omega)
      rw [getElem!_pos _ i hi', getElem!_pos _ j hj', cmpW_lt] at this
      simpa using this
    · refine .inr ⟨g, 0, cap, by simp [hd'], by simp [hd']; exact h1, Nat.lt_of_lt_of_le hbl (grown_sortK d').size, ?_⟩
      have hH' := holdsK_sortWorldK_c encW 2 w g 0 xs.toArray d' n os hH hbl (by rw [hd', hsz])
      intro j x hj
      obtain ⟨q, hq, rfl⟩ := List.getElem?_eq_some_iff.1 hj
      have hjd : j < d'.size := by simpa using q
      have he : d'[j]! = d'.toList[j] := by rw [getElem!_pos d' j hjd]; simp
      have c0 := (HoldsK.cell hH' hjd (c := 0) (by omega)).1
      have c1 := (HoldsK.cell hH' hjd (c := 1) (by omega)).1
      rw [he] at c0 c1
      exact ⟨c0, c1⟩
    · have := Kept.of_grown (grown_sortK (enc := encW) (k := 2) (w := w) (g := g) (off := 0) (n := n) (os := os) d')
      refine this.mono fun i hi => ?_
      simp [Value.ownBlock]
end Go.Proofs.Ytelgknecainlfaa

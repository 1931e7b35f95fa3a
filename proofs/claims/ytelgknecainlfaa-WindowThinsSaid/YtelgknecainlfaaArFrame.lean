/- ArFrame: texts for the statements of this seat: contracts of functions, walks, plain laws. Conditions: none. -/
import Derived.OpenShut
import Derived.Carry
import Derived.ChangeSlices
import Derived.Test.YtelgknecainlfaaArPost
set_option linter.all false
/- A row's end where nothing that was there has turned: every argument, of whatever type, reads as before. -/
namespace Go.Proofs.Ytelgknecainlfaa
open Go.RowKit Go.ChangeShapes Go.WideShapes Go.ChangeAt
variable {H : Type} {enc : TypeId × Value → H} {P : Program}

theorem trodAll_keep (hl : laidOutB P = true) {W W' : World} (hb : Below W.heap.size W W') :
    ∀ {ts : List TypeId} {vs : List Value} {ds : List (DataW H)} {ps : List MemPlace}, (ts.all fun t => P.readableRec t && decide (t < P.types.size)) = true → DataW.TrodAll enc P W 0 (fun _ => true) true ts vs ds ps → (∀ x ∈ ps, x.block < W.heap.size) →
      DataW.TrodAll enc P W' 0 (fun b => decide (b < W.heap.size)) true ts vs ds ps
  | [], vs, ds, ps, _, h, _ => by
    obtain ⟨rfl, rfl, rfl⟩ := trodAll_nil h
    exact trodAll_mk0
  | t :: ts, vs, ds, ps, ht, h, hp => by
    obtain ⟨v, vs', d, ds', p, q, rfl, rfl, rfl, h1, h2⟩ := trodAll_cons h
    simp only [List.all_cons, Bool.and_eq_true] at ht
    exact trodAll_cons_mk (Below.trod hl ht.1.1 (of_decide_eq_true ht.1.2) h1 hb (fun x hx => hp x (List.mem_append_left _ hx)))
      (trodAll_keep hl hb (by simpa using ht.2) h2 (fun x hx => hp x (List.mem_append_right _ hx)))

theorem post_of_kept2 {f : Func} {s : ChangeSpec} {apart fresh handsOn : Bool} {W W' : World} {args : Array Value} {v : Value} {ds : List (DataW H)} {before : List MemPlace} (hl : laidOutB P = true)
    (hW : DataW.Whole enc P f.params.toList s.vars apart W args.toList ds [] before) (hvars : s.vars = [])
    (hts : (f.params.toList.all fun t => P.readableRec t && decide (t < P.types.size)) = true)
    (hA : DataW.TrodAll enc P W 0 (fun _ => true) true f.params.toList args.toList ds before)
    (hres : ∀ (b : Nat) (sp : Nat → Bool) (hd : Bool), DataW.TrodAll enc P W' b sp hd f.resultTypes.toList (v.resultList f.resultTypes.size) (s.fn H (ds ++ [])).results [])
    (hargs : (s.fn H (ds ++ [])).args = ds) (hvs : (s.fn H (ds ++ [])).vars = [])
    (hk : Kept (fun _ => False) W W') : s.post enc P f apart fresh handsOn false W args v W' := by
  have hB : Below W.heap.size W W' := hk.below (Nat.le_refl _) (fun _ _ h => h)
  refine ⟨ds, [], before, [], before, [], hW, hres _ _ _, ?_, ?_, hk.frame _, fun h => by cases h⟩
  · rw [hargs]; exact trodAll_keep hl hB hts hA (fun x hx => hW.lt x hx)
  · rw [hvars, hvs]; rfl

/-- A slice of numbers, as the walk wants it. -/
theorem slice_ints {t e : TypeId} {k : IntKind} {W : World} {base : Nat} {v : Value} {d : DataW H} {ps : List MemPlace} (ht : P.underlying t = some (.slice e)) (he : P.underlying e = some (.int k)) (hc : P.cellsOf e = 1)
    (hv : Value.okWide P W .any base t v) (h : DataW.Trod enc P W 0 (fun _ => true) true t v d ps) :
    ∃ (p : Option Addr) (cap : Nat) (xs : List Int), v = .slice p xs.length cap ∧ xs.length ≤ maxLen ∧
      ∀ i x, xs[i]? = some x → (Lit.int k x).wf = true ∧ ∃ b off, p = some ⟨b, off, none⟩ ∧ b < W.heap.size ∧ W.cell? ⟨b, off + i, none⟩ = some (.int k x) := by
  obtain ⟨a0, len, cap, rfl⟩ := okWide_slice ht hv
  obtain ⟨fuel, hf⟩ := h
  rcases open_ints ht he hc hf with ⟨hcs, hx⟩ | ⟨a, len', cap', zs, hcs, _, hl, hm, hz, hx, hcell, hwz⟩
  · simp [Value.cells] at hcs
    obtain ⟨rfl, rfl, rfl⟩ := hcs
    exact ⟨none, 0, [], rfl, Nat.zero_le _, fun i x hx => by cases hx⟩
  · simp [Value.cells] at hcs
    obtain ⟨rfl, rfl, rfl⟩ := hcs
    simp only [if_true] at hz
    have hll : (zs.take len).length = len := by simp; omega
    refine ⟨some a, cap, zs.take len, by rw [hll], by omega, fun i x hx => ?_⟩
    have hi : i < len := by have := (List.getElem?_eq_some_iff.1 hx).1; omega
    rw [List.getElem?_take_of_lt hi] at hx
    have hzi : zs.getD i 0 = x := by rw [List.getD_eq_getElem?_getD, hx]; rfl
    have hmem : x ∈ zs := List.mem_of_getElem? hx
    obtain ⟨b, off, spot⟩ := a
    have hci := hcell i (by omega)
    have hspot : spot = none := by simpa [Addr.add] using World.cell?_spot (hcell 0 (by omega))
    subst hspot
    rw [hzi] at hci
    have hci2 : W.cell? ⟨b, off + i, none⟩ = some (.int k x) := by simpa [add_plain] using hci
    exact ⟨hwz x hmem, b, off, rfl, World.block_lt_of_cell? _ _ hci2, hci2⟩
end Go.Proofs.Ytelgknecainlfaa

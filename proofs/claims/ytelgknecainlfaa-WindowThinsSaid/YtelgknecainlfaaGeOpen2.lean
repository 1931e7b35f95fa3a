/- GeOpen2: texts for the statements of this seat: contracts of functions, walks, plain laws. Conditions: none. -/
import Derived.Test.YtelgknecainlfaaArFrame
import Derived.Test.YtelgknecainlfaaGeInts
set_option linter.all false
/- Arguments opened as the walk wants them: a slice of numbers, a struct of two numbers. -/
namespace Go.Proofs.Ytelgknecainlfaa
open Go.RowKit Go.ChangeShapes Go.WideShapes Go.ChangeAt
variable {H : Type} {enc : TypeId × Value → H} {P : Program}

theorem open_ints2 {t e : TypeId} {k : IntKind} {W : World} {base : Nat} {v : Value} {d : DataW H} {ps : List MemPlace} (ht : P.underlying t = some (.slice e)) (he : P.underlying e = some (.int k)) (hc : P.cellsOf e = 1)
    (hv : Value.okWide P W .any base t v) (h : DataW.Trod enc P W 0 (fun _ => true) true t v d ps) :
    ∃ xs : List Int, IntsK k W v xs ∧ xs.length ≤ maxLen ∧ ∀ x ∈ xs, (Lit.int k x).wf = true := by
  obtain ⟨p, cap, xs, rfl, hl, hx⟩ := slice_ints ht he hc hv h
  refine ⟨xs, ?_, hl, fun x hx' => ?_⟩
  · rcases Nat.eq_zero_or_pos xs.length with h0 | h0
    · obtain rfl := List.eq_nil_of_length_eq_zero h0
      exact .inl ⟨p, cap, rfl, rfl⟩
    · obtain ⟨-, b, off, rfl, hb, -⟩ := hx 0 _ (List.getElem?_eq_getElem h0)
      refine .inr ⟨b, off, cap, rfl, hb, fun j x hj => ?_⟩
      obtain ⟨-, b', off', e, -, hc⟩ := hx j x hj
      injection e with e
      injection e with e1 e2 _
      subst e1 e2
      exact hc
  · obtain ⟨i, hi⟩ := List.getElem?_of_mem hx'
    exact (hx i x hi).1
theorem open_two {t : TypeId} {f0 f1 : Field} {k0 k1 : IntKind} {W : World} {base : Nat} {v : Value} {d : DataW H} {ps : List MemPlace} (ht : P.underlying t = some (.struct #[f0, f1])) (hc : P.cellsOf t = 2)
    (o0 : f0.offset = 0) (o1 : f1.offset = 1) (c0 : P.cellsOf f0.type = 1) (c1 : P.cellsOf f1.type = 1) (u0 : P.underlying f0.type = some (.int k0)) (u1 : P.underlying f1.type = some (.int k1))
    (hv : Value.okWide P W .any base t v) (h : DataW.Trod enc P W 0 (fun _ => true) true t v d ps) :
    ∃ a b : Int, v = .agg #[.int k0 a, .int k1 b] ∧ (Lit.int k0 a).wf = true ∧ (Lit.int k1 b).wf = true := by
  simp only [Value.okWide, ht] at hv
  obtain ⟨cs, rfl, h2, -⟩ := hv
  rw [hc] at h2
  obtain ⟨l⟩ := cs
  match l, h2 with
  | [x0, x1], _ =>
    obtain ⟨fuel, hf⟩ := h
    obtain ⟨y0, y1, n, -, -, g0, g1⟩ := trod_struct2 ht hf
    simp only [Value.cells, o0, o1, c0, c1] at g0 g1
    obtain ⟨n0, e0, -, w0⟩ := DataW.trod_int u0 g0
    obtain ⟨n1, e1, -, w1⟩ := DataW.trod_int u1 g1
    simp at e0 e1
    subst e0 e1
    exact ⟨n0, n1, rfl, w0, w1⟩
end Go.Proofs.Ytelgknecainlfaa

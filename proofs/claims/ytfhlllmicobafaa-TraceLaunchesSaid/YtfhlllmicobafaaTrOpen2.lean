/- TrOpen2: texts for the statements of this seat: contracts of functions, walks, plain laws. Conditions: none. -/
import Derived.Test.YtfhlllmicobafaaTrOpen
import Derived.Test.YtfhlllmicobafaaGeAll
set_option linter.all false
/- Numbers of 32 bits as an argument, with the room behind them. -/
namespace Go.Proofs.Ytfhlllmicobafaa
open Go.RowKit Go.ChangeShapes Go.WideShapes Go.ChangeAt
section
variable {H : Type} {enc : TypeId × Value → H} {P : Program}
theorem open_cap {t e : TypeId} {k : IntKind} {W : World} {base : Nat} {v : Value} {d : DataW H} {ps : List MemPlace} (ht : P.underlying t = some (.slice e)) (he : P.underlying e = some (.int k)) (hc : P.cellsOf e = 1)
    (hv : Value.okWide P W .any base t v) (h : DataW.Trod enc P W 0 (fun _ => true) true t v d ps) : ∃ p n c, v = .slice p n c ∧ n ≤ c := by
  obtain ⟨a0, len, cap, rfl⟩ := okWide_slice ht hv
  obtain ⟨fuel, hf⟩ := h
  rcases open_ints ht he hc hf with ⟨hcs, hx⟩ | ⟨a, len', cap', zs, hcs, _, hl, hm, hz, hx, hcell, hwz⟩
  · simp [Value.cells] at hcs
    obtain ⟨rfl, rfl, rfl⟩ := hcs
    exact ⟨_, _, _, rfl, Nat.le_refl _⟩
  · simp [Value.cells] at hcs
    obtain ⟨rfl, rfl, rfl⟩ := hcs
    exact ⟨_, _, _, rfl, hl⟩
end
theorem Try.cells79 : Try.prog.cellsOf 79 = 1 := by kernel_rfl
section
variable {H : Type} {enc : TypeId × Value → H}
set_option maxRecDepth 100000 in
theorem open_u32 {W : World} {base : Nat} {v : Value} {d : DataW H} {ps : List MemPlace} (hv : Value.okWide Try.prog W .any base 44 v) (h : DataW.Trod enc Try.prog W 0 (fun _ => true) true 44 v d ps) :
    ∃ xs : List Int, IntsK .u32 W v xs ∧ (∃ p c, v = .slice p xs.length c ∧ xs.length ≤ c) ∧ xs.length ≤ maxLen ∧ Tr.U32 xs := by
  obtain ⟨xs, h1, h2, h3⟩ := open_ints2 Try.underlying44 Try.underlying79 Try.cells79 hv h
  obtain ⟨p, n, c, e, hnc⟩ := open_cap Try.underlying44 Try.underlying79 Try.cells79 hv h
  obtain ⟨q, c2, e2⟩ := h1.len
  rw [e] at e2
  injection e2 with _ e4 _
  subst e4
  refine ⟨xs, h1, ⟨p, c, e, hnc⟩, h2, fun x hx => ?_⟩
  have := h3 x hx
  simp only [Lit.wf, Bool.and_eq_true, decide_eq_true_eq] at this
  have e1 : IntKind.u32.min = 0 := by decide
  have e2 : IntKind.u32.max = 4294967295 := by decide
  omega
end
end Go.Proofs.Ytfhlllmicobafaa

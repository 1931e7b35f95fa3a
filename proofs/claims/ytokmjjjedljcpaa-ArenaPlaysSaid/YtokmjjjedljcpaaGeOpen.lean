/- GeOpen: texts for the statements of this seat: contracts of functions, walks, plain laws. Conditions: none. -/
import Derived.Deep.SlicePairs
import Derived.Test.YtokmjjjedljcpaaArFrame
import Derived.Test.YtokmjjjedljcpaaGePair
set_option linter.all false
/- Arguments that are slices of structs of two numbers, opened as the walk wants them. -/
namespace Go.Proofs.Ytokmjjjedljcpaa
open Go.RowKit Go.ChangeShapes Go.WideShapes Go.ChangeAt Go.Deep
variable {H : Type} {enc : TypeId × Value → H} {P : Program}

/-- A nil slice has no room. -/
def Nz (v : Value) : Prop := ∀ n c, v = .slice none n c → n = 0 ∧ c = 0
theorem Nz.nil : Nz (.slice none 0 0) := fun n c h => by injection h with _ h2 h3; omega
theorem Nz.some (a : Addr) (n c : Nat) : Nz (.slice (some a) n c) := fun n c h => by injection h with h _ _; cases h
theorem Nz.own {w : World} {base e size : Nat} {v : Value} {n : Nat} {xs : List Value} (h : w.ownsRow base e size v n xs) : Nz v := by
  rcases h.2 with ⟨rfl, -⟩ | ⟨g, cap, cur, rfl, -⟩
  · exact Nz.nil
  · exact Nz.some _ _ _

theorem slice_pairs {t e : TypeId} {f0 f1 : Field} {W : World} {base : Nat} {v : Value} {d : DataW H} {ps : List MemPlace} (ht : P.underlying t = some (.slice e)) (he : P.underlying e = some (.struct #[f0, f1])) (ce : P.cellsOf e = 2)
    (o0 : f0.offset = 0) (o1 : f1.offset = 1) (c0 : P.cellsOf f0.type = 1) (c1 : P.cellsOf f1.type = 1) (u0 : P.underlying f0.type = some (.int .i64)) (u1 : P.underlying f1.type = some (.int .i64))
    (hv : Value.okWide P W .any base t v) (h : DataW.Trod enc P W 0 (fun _ => true) true t v d ps) :
    ∃ xs : List (Int × Int), Prs W v xs ∧ Nz v ∧ xs.length ≤ maxLen ∧ ∀ x ∈ xs, (Lit.int .i64 x.1).wf = true ∧ (Lit.int .i64 x.2).wf = true := by
  obtain ⟨a0, len, cap, rfl⟩ := okWide_slice ht hv
  obtain ⟨fuel, hf⟩ := h
  rcases open_slice_pairs ht he ce o0 o1 c0 c1 hf with ⟨hcs, hx⟩ | ⟨a, len', cap', m, n, V0, V1, D0, D1, P0, P1, hcs, _, hl, hm, hmm, hx, hcell⟩
  · simp [Value.cells] at hcs
    obtain ⟨rfl, rfl, rfl⟩ := hcs
    exact ⟨[], Prs.nil _ _ _, Nz.nil, Nat.zero_le _, by simp⟩
  · simp [Value.cells] at hcs
    obtain ⟨rfl, rfl, rfl⟩ := hcs
    simp only [if_true] at hmm
    subst hmm
    have each : ∀ i, i < len → ∃ x : Int × Int, (W.cell? (a.add (i * 2)) = some (.int .i64 x.1) ∧ W.cell? (a.add (i * 2 + 1)) = some (.int .i64 x.2)) ∧ (Lit.int .i64 x.1).wf = true ∧ (Lit.int .i64 x.2).wf = true := fun i hi => by
      obtain ⟨g0, g1, g2, g3⟩ := hcell i (by omega)
      obtain ⟨n0, e0, -, w0⟩ := DataW.trod_int u0 g2
      obtain ⟨n1, e1, -, w1⟩ := DataW.trod_int u1 g3
      injection e0 with e0 _
      injection e1 with e1 _
      exact ⟨(n0, n1), ⟨by rw [g0, e0], by rw [g1, e1]⟩, w0, w1⟩
    obtain ⟨q, hq⟩ := choose_lt each
    refine ⟨(List.range len).map q, ?_, Nz.some _ _ _, by simp; omega, fun x hx => ?_⟩
    · by_cases h0 : len = 0
      · subst h0; exact Prs.nil _ _ _
      · obtain ⟨b, off, spot⟩ := a
        have hspot : spot = none := by simpa [Addr.add] using World.cell?_spot ((hq 0 (by omega)).1.1)
        subst hspot
        have hb := World.block_lt_of_cell? _ _ ((hq 0 (by omega)).1.1)
        simp only [add_plain] at hb
        refine .inr ⟨b, off, _, by rw [List.length_map, List.length_range], hb, fun j x hx => ?_⟩
        have hj : j < len := by have := (List.getElem?_eq_some_iff.1 hx).1; simpa using this
        rw [List.getElem?_map, List.getElem?_range hj] at hx
        simp at hx
        subst hx
        have := (hq j hj).1
        simpa [add_plain, Nat.add_assoc] using this
    · simp at hx
      obtain ⟨i, hi, rfl⟩ := hx
      exact (hq i hi).2
end Go.Proofs.Ytokmjjjedljcpaa

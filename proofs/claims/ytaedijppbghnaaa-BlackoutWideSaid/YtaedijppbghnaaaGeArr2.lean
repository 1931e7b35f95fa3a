/- Arguments that are slices of arrays of two numbers, opened as the walk wants them. -/
import Derived.Test.YtaedijppbghnaaaGeOpen
namespace Go.Proofs.Ytaedijppbghnaaa
open Go.RowKit Go.ChangeShapes Go.WideShapes Go.ChangeAt Go.Deep
variable {H : Type} {enc : TypeId × Value → H} {P : Program}

/-- The slice v reads as the pairs xs, of the kind k. -/
def PrsK (k : IntKind) (w : World) (v : Value) (xs : List (Int × Int)) : Prop :=
  (∃ a cap, v = .slice a 0 cap ∧ xs = []) ∨ ∃ b off cap, v = .slice (some ⟨b, off, none⟩) xs.length cap ∧ b < w.heap.size ∧ ∀ j x, xs[j]? = some x → w.cell? ⟨b, off + j * 2, none⟩ = some (.int k x.1) ∧ w.cell? ⟨b, off + j * 2 + 1, none⟩ = some (.int k x.2)
theorem PrsK.len {k : IntKind} {w : World} {v : Value} {xs : List (Int × Int)} (h : PrsK k w v xs) : ∃ a cap, v = .slice a xs.length cap := by
  rcases h with ⟨a, cap, rfl, rfl⟩ | ⟨b, off, cap, rfl, -⟩
  · exact ⟨a, cap, rfl⟩
  · exact ⟨_, cap, rfl⟩
theorem PrsK.pos {k : IntKind} {w : World} {v : Value} {xs : List (Int × Int)} (h : PrsK k w v xs) (hp : 0 < xs.length) : ∃ b off cap, v = .slice (some ⟨b, off, none⟩) xs.length cap ∧ b < w.heap.size ∧ ∀ j x, xs[j]? = some x → w.cell? ⟨b, off + j * 2, none⟩ = some (.int k x.1) ∧ w.cell? ⟨b, off + j * 2 + 1, none⟩ = some (.int k x.2) := by
  rcases h with ⟨a, cap, rfl, rfl⟩ | h
  · simp at hp
  · exact h
theorem PrsK.same {k : IntKind} {w w' : World} {v : Value} {xs : List (Int × Int)} (h : PrsK k w v xs) (K : Kept (fun _ => False) w w') : PrsK k w' v xs := by
  rcases h with h | ⟨b, off, cap, rfl, hb, hc⟩
  · exact .inl h
  · exact .inr ⟨b, off, cap, rfl, Nat.lt_of_lt_of_le hb K.size, fun j x hx =>
      ⟨(K.cell (a := ⟨b, off + j * 2, none⟩) hb (fun h => h)).trans (hc j x hx).1, (K.cell (a := ⟨b, off + j * 2 + 1, none⟩) hb (fun h => h)).trans (hc j x hx).2⟩⟩

theorem slice_arr2 {t e f : TypeId} {k : IntKind} {W : World} {base : Nat} {v : Value} {d : DataW H} {ps : List MemPlace} (ht : P.underlying t = some (.slice e)) (he : P.underlying e = some (.array 2 f)) (ce : P.cellsOf e = 2)
    (cf : P.cellsOf f = 1) (uf : P.underlying f = some (.int k))
    (hv : Value.okWide P W .any base t v) (h : DataW.Trod enc P W 0 (fun _ => true) true t v d ps) :
    ∃ xs : List (Int × Int), PrsK k W v xs ∧ Nz v ∧ (xs.length ≤ maxLen ∧ ∀ a n c, v = .slice a n c → n ≤ c ∧ c ≤ maxLen) ∧ ∀ x ∈ xs, (Lit.int k x.1).wf = true ∧ (Lit.int k x.2).wf = true := by
  obtain ⟨a0, len, cap, rfl⟩ := okWide_slice ht hv
  obtain ⟨fuel, hf⟩ := h
  rcases open_slice ht hf with ⟨hcs, hx⟩ | ⟨a, len', cap', m, n, D, Pl, hcs, _, hl, hm, hmm, hx, hcell⟩
  · simp [Value.cells] at hcs
    obtain ⟨rfl, rfl, rfl⟩ := hcs
    exact ⟨[], .inl ⟨_, _, rfl, rfl⟩, Nz.nil, ⟨Nat.zero_le _, fun a n c h => by injection h with _ h2 h3; subst h2 h3; exact ⟨Nat.le_refl _, Nat.zero_le _⟩⟩, by simp⟩
  · simp [Value.cells] at hcs
    obtain ⟨rfl, rfl, rfl⟩ := hcs
    simp only [if_true] at hmm
    subst hmm
    have each : ∀ i, i < len → ∃ x : Int × Int, (W.cell? (a.add (i * 2)) = some (.int k x.1) ∧ W.cell? (a.add (i * 2 + 1)) = some (.int k x.2)) ∧ (Lit.int k x.1).wf = true ∧ (Lit.int k x.2).wf = true := fun i hi => by
      obtain ⟨cs', g1, g2⟩ := hcell i (by omega)
      rw [ce] at g1
      obtain ⟨_, hlen, hcl⟩ := World.cells?_some g1
      obtain ⟨xs, m', _, _, _, hxl, hfx⟩ := DataW.trod_array he g2
      match xs, hxl, cs', hlen with
      | [y0, y1], _, [v0, v1], _ =>
        have q0 := hfx 0 (by omega)
        have q1 := hfx 1 (by omega)
        simp [cf] at q0 q1
        obtain ⟨n0, e0, -, w0⟩ := DataW.trod_int uf q0
        obtain ⟨n1, e1, -, w1⟩ := DataW.trod_int uf q1
        injection e0 with e0 _
        injection e1 with e1 _
        have r0 := hcl 0 (by omega)
        have r1 := hcl 1 (by omega)
        rw [add_add] at r0 r1
        subst e0 e1
        exact ⟨(n0, n1), ⟨by simpa using r0, by simpa using r1⟩, w0, w1⟩
    obtain ⟨q, hq⟩ := choose_lt each
    refine ⟨(List.range len).map q, ?_, Nz.some _ _ _, ⟨by simp; omega, fun a n c h => by injection h with _ h2 h3; subst h2 h3; exact ⟨hl, hm⟩⟩, fun x hx => ?_⟩
    · by_cases h0 : len = 0
      · subst h0; exact .inl ⟨_, _, rfl, rfl⟩
      · obtain ⟨b, off, spot⟩ := a
        have hspot : spot = none := by simpa [Addr.add] using World.cell?_spot ((hq 0 (by omega)).1.1)
        subst hspot
        have hb := World.block_lt_of_cell? _ _ ((hq 0 (by omega)).1.1)
        simp only [add_plain] at hb
        refine .inr ⟨b, off, _, by rw [List.length_map, List.length_range], hb, fun j x hx => ?_⟩
        have hj : j < len := by have := (List.getElem?_eq_some_iff.1 hx).1; simpa using this
        rw [List.getElem?_map, List.getElem?_range hj] at hx
        simp at hx
        subst hx
        have := (hq j hj).1
        simpa [add_plain, Nat.add_assoc] using this
    · simp at hx
      obtain ⟨i, hi, rfl⟩ := hx
      exact (hq i hi).2
end Go.Proofs.Ytaedijppbghnaaa

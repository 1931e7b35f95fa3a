/- TrOpen: texts for the statements of this seat: contracts of functions, walks, plain laws. Conditions: none. -/
import Derived.Deep.Slices
import Derived.Deep.Fields
import Derived.ChangeSame
import Derived.Test.YtfhlllmicobafaaTrWalk2
import Derived.Test.YtfhlllmicobafaaGeAll
set_option linter.all false
/- A list of events as an argument. -/
namespace Go.Proofs.Ytfhlllmicobafaa
open Go.RowKit Go.ChangeShapes Go.WideShapes Go.Deep
open Tr (Ev)
section
variable {H : Type} {enc : TypeId × Value → H} {P : Program} {w : World} {base : Nat} {spare : Nat → Bool} {held : Bool}
theorem open_slice_fields {t e : TypeId} {fs : Array Field} {fuel : Nat} {cs : List Value} {x : DataW H × List MemPlace} (ht : P.underlying t = some (.slice e)) (he : P.underlying e = some (.struct fs))
    (hone : oneCellFields P fs = true) (hC : P.cellsOf e = fs.size) (h : DataW.trod enc P w base spare held fuel t cs = some x) :
    (cs = [.slice none 0 0] ∧ x = (.nil, [])) ∨
    ∃ (a : Addr) (len cap m : Nat) (D : Nat → DataW H) (Pl : Nat → List MemPlace), cs = [.slice (some a) len cap] ∧ base ≤ a.block ∧ len ≤ cap ∧ cap ≤ maxLen ∧ m = (if spare a.block then cap else len) ∧
      x = (.slice ((List.range len).map D) ((List.range (m - len)).map fun j => D (len + j)), MemPlace.row a (m * fs.size) ++ (List.range m).flatMap Pl) ∧
      ∀ i, i < m → ∃ (ys : List (DataW H × List MemPlace)) (n : Nat), D i = .agg (ys.map (·.1)) ∧ Pl i = ys.flatMap (·.2) ∧ ys.length = fs.size ∧
        ∀ (j : Nat) (f : Field), fs[j]? = some f → ∃ (v : Value) (y : DataW H × List MemPlace), w.cell? (a.add (i * fs.size + j)) = some v ∧ ys[j]? = some y ∧ DataW.trod enc P w base spare held n f.type [v] = some y := by
  rcases open_slice ht h with h0 | ⟨a, len, cap, m, n, D, Pl, hcs, hb, hl, hm, hmm, hx, hi⟩
  · exact .inl h0
  · refine .inr ⟨a, len, cap, m, D, Pl, hcs, hb, hl, hm, hmm, by rw [hC] at hx; exact hx, fun i him => ?_⟩
    obtain ⟨cs', hc, ht'⟩ := hi i him
    rw [hC] at hc
    obtain ⟨ys, n', hn', hy, hlen, hyl, hf⟩ := DataW.trod_struct he ht'
    obtain ⟨_, hcl, hat⟩ := World.cells?_some hc
    simp only [Prod.mk.injEq] at hy
    refine ⟨ys, n', hy.1, hy.2, hyl, fun j f hj => ?_⟩
    obtain ⟨ho, hk⟩ := hone_of hone j f hj
    have hjl : j < fs.size := (Array.getElem?_eq_some_iff.1 hj).1
    have hcell := hat j hjl
    have hv : cs'[j]? = some (cs'[j]'(by omega)) := List.getElem?_eq_getElem (by omega)
    have h1 := hf j f hj
    rw [ho, hk] at h1
    have hone' : (cs'.drop j).take 1 = [cs'[j]'(by omega)] := by
      rw [List.drop_eq_getElem_cons (by omega)]
      rfl
    rw [hone'] at h1
    have hys : ys[j]? = some (ys[j]'(by omega)) := List.getElem?_eq_getElem (by omega)
    refine ⟨_, _, ?_, hys, h1.trans hys⟩
    rw [← Go.Deep.add_add, hcell, hv]
end

section
variable {H : Type} {enc : TypeId × Value → H} {P : Program}
def isI64 : Option TypeDesc → Bool
  | some (.int .i64) => true
  | _ => false
theorem isI64_eq : ∀ {o : Option TypeDesc}, isI64 o = true → o = some (.int .i64) := by
  intro o h
  unfold isI64 at h
  split at h
  · rfl
  · cases h
theorem slice_fields {t e k : TypeId} {fs : Array Field} {α : Type} {f : α → List Value} {n : Nat} {W : World} {base : Nat} {v : Value} {d : DataW H} {ps : List MemPlace} {held : Bool} (ht : P.underlying t = some (.slice e)) (he : P.underlying e = some (.struct fs))
    (hone : oneCellFields P fs = true) (hC : P.cellsOf e = fs.size) (hn : fs.size = n) (hpos : 0 < n) (mk : (Nat → Int) → α) (hmk : ∀ g, (f (mk g)) = (List.range n).map fun j => .int .i64 (g j)) (hint : ∀ (j : Nat) (fl : Field), fs[j]? = some fl → P.underlying fl.type = some (.int .i64))
    (hv : Value.okWide P W .any base t v) (h : DataW.Trod enc P W 0 (fun _ => true) held t v d ps) :
    ∃ xs : List α, Rows f n W v xs ∧ Nz v ∧ xs.length ≤ maxLen ∧ ∀ x ∈ xs, ∃ g, x = mk g ∧ ∀ j, j < n → (Lit.int .i64 (g j)).wf = true := by
  obtain ⟨a0, len, cap, rfl⟩ := okWide_slice ht hv
  obtain ⟨fuel, hf⟩ := h
  rcases open_slice_fields ht he hone hC hf with ⟨hcs, hx⟩ | ⟨a, len', cap', m, D, Pl, hcs, _, hl, hm, hmm, hx, hcell⟩
  · simp [Value.cells] at hcs
    obtain ⟨rfl, rfl, rfl⟩ := hcs
    exact ⟨[], Rows.nil _ _ _, Nz.nil, Nat.zero_le _, by simp⟩
  · simp [Value.cells] at hcs
    obtain ⟨rfl, rfl, rfl⟩ := hcs
    simp only [if_true] at hmm
    subst hmm
    have each : ∀ i, i < len → ∃ g : Nat → Int, ∀ j, j < n → W.cell? (a.add (i * n + j)) = some (.int .i64 (g j)) ∧ (Lit.int .i64 (g j)).wf = true := fun i hi => by
      obtain ⟨ys, m, -, -, -, hj⟩ := hcell i (by omega)
      have q : ∀ j, j < n → ∃ z : Int, W.cell? (a.add (i * n + j)) = some (.int .i64 z) ∧ (Lit.int .i64 z).wf = true := fun j hjn => by
        have hfl : fs[j]? = some fs[j] := Array.getElem?_eq_getElem (by omega)
        obtain ⟨v, y, g1, -, g3⟩ := hj j _ hfl
        obtain ⟨z, e, -, wf⟩ := DataW.trod_int (hint j _ hfl) g3
        injection e with e _
        exact ⟨z, by rw [← hn, g1, e], wf⟩
      exact choose_lt q
    obtain ⟨q, hq⟩ := choose_lt each
    refine ⟨(List.range len).map fun i => mk (q i), ?_, Nz.some _ _ _, by simp; omega, fun x hx => ?_⟩
    · by_cases h0 : len = 0
      · subst h0; exact .inl ⟨_, _, rfl, rfl⟩
      · have hn0 := hpos
        obtain ⟨b, off, spot⟩ := a
        have hspot : spot = none := by simpa [Addr.add] using World.cell?_spot ((hq 0 (by omega) 0 hn0).1)
        subst hspot
        have hb := World.block_lt_of_cell? _ _ ((hq 0 (by omega) 0 hn0).1)
        simp only [add_plain] at hb
        refine .inr ⟨b, off, _, by rw [List.length_map, List.length_range], by rw [List.length_map, List.length_range]; omega, hb, fun j x hx i u hu => ?_⟩
        have hj : j < len := by have := (List.getElem?_eq_some_iff.1 hx).1; simpa using this
        rw [List.getElem?_map, List.getElem?_range hj] at hx
        simp at hx
        subst hx
        rw [hmk] at hu
        have hi : i < n := by have := (List.getElem?_eq_some_iff.1 hu).1; simpa using this
        rw [List.getElem?_map, List.getElem?_range hi] at hu
        simp at hu
        subst hu
        have := (hq j hj i hi).1
        simpa [add_plain, Nat.add_assoc] using this
    · simp at hx
      obtain ⟨i, hi, rfl⟩ := hx
      exact ⟨q i, rfl, fun j hj => (hq i hi j hj).2⟩
theorem Try.under22 : Try.prog.underlying 22 = some (.slice 35) := Try.underlying22
theorem Try.under35 : Try.prog.underlying 35 = some (.struct (Try.prog.fieldsOf 35)) := by kernel_rfl
theorem all_fields {fs : Array Field} {p : Field → Bool} (h : fs.toList.all p = true) {j : Nat} {fl : Field} (hj : fs[j]? = some fl) : p fl = true := by
  rw [← Array.getElem?_toList] at hj
  exact List.all_eq_true.1 h fl (List.mem_of_getElem? hj)
theorem Try.all35 : (Try.prog.fieldsOf 35).toList.all (fun fl => isI64 (Try.prog.underlying fl.type)) = true := by kernel_rfl
theorem Try.one35 : oneCellFields Try.prog (Try.prog.fieldsOf 35) = true := by kernel_rfl
theorem Try.fsz35 : (Try.prog.fieldsOf 35).size = 8 := by kernel_rfl
theorem Try.cls35 : Try.prog.cellsOf 35 = 8 := by kernel_rfl
set_option maxRecDepth 100000 in
theorem slice_evs {W : World} {base : Nat} {v : Value} {d : DataW H} {ps : List MemPlace} {held : Bool} (hv : Value.okWide Try.prog W .any base 22 v) (h : DataW.Trod enc Try.prog W 0 (fun _ => true) held 22 v d ps) :
    ∃ xs : List Ev, Evs W v xs ∧ Nz v ∧ xs.length ≤ maxLen ∧ EvW xs := by
  obtain ⟨xs, h1, h2, h3, h4⟩ := slice_fields (f := evC) (n := 8) (k := 0) Try.under22 Try.under35 Try.one35 (Try.cls35.trans Try.fsz35.symm) Try.fsz35 (by omega) (fun g => ⟨g 0, g 1, g 2, g 3, g 4, g 5, g 6, g 7⟩) (fun g => rfl) (by
    intro j fl hj
    exact isI64_eq (all_fields (p := fun fl => isI64 (Try.prog.underlying fl.type)) Try.all35 hj)) hv h
  refine ⟨xs, h1, h2, h3, fun x hx => ?_⟩
  obtain ⟨g, rfl, hg⟩ := h4 x hx
  exact hg 5 (by omega)
end
end Go.Proofs.Ytfhlllmicobafaa

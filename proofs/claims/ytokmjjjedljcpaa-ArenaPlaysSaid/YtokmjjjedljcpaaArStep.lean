/- ArStep: texts for the statements of this seat: contracts of functions, walks, plain laws. Conditions: none. -/
import Derived.Deep.Slices
import Derived.Deep.Fields
import Derived.ChangeSame
import Derived.Test.YtokmjjjedljcpaaArShows
import Derived.Test.YtokmjjjedljcpaaGeRows
import Derived.Test.YtokmjjjedljcpaaGeOpen
set_option linter.all false
/- A list of steps as an argument: structs of four numbers of different kinds. -/
namespace Go.Proofs.Ytokmjjjedljcpaa
open Go.RowKit Go.ChangeShapes Go.WideShapes Go.Deep
structure St where
  d : Int
  v : Int
  at_ : Int
  h : Int
def stC (s : St) : List Value := [.int .i64 s.d, .int .i64 s.v, .int .u16 s.at_, .int .i64 s.h]
theorem stC_len (s : St) : (stC s).length = 4 := rfl
section
variable {H : Type} {enc : TypeId × Value → H} {P : Program} {w : World} {base : Nat} {spare : Nat → Bool} {held : Bool}
theorem open_sliceK {t e : TypeId} {fs : Array Field} {fuel : Nat} {cs : List Value} {x : DataW H × List MemPlace} (ht : P.underlying t = some (.slice e)) (he : P.underlying e = some (.struct fs))
    (hone : oneCellFields P fs = true) (hC : P.cellsOf e = fs.size) (h : DataW.trod enc P w base spare held fuel t cs = some x) :
    (cs = [.slice none 0 0] ∧ x = (.nil, [])) ∨
    ∃ (a : Addr) (len cap m : Nat) (D : Nat → DataW H) (Pl : Nat → List MemPlace), cs = [.slice (some a) len cap] ∧ base ≤ a.block ∧ len ≤ cap ∧ cap ≤ maxLen ∧ m = (if spare a.block then cap else len) ∧
      ∀ i, i < m → ∃ (ys : List (DataW H × List MemPlace)) (n : Nat), D i = .agg (ys.map (·.1)) ∧ Pl i = ys.flatMap (·.2) ∧ ys.length = fs.size ∧
        ∀ (j : Nat) (f : Field), fs[j]? = some f → ∃ (v : Value) (y : DataW H × List MemPlace), w.cell? (a.add (i * fs.size + j)) = some v ∧ ys[j]? = some y ∧ DataW.trod enc P w base spare held n f.type [v] = some y := by
  rcases open_slice ht h with h0 | ⟨a, len, cap, m, n, D, Pl, hcs, hb, hl, hm, hmm, hx, hi⟩
  · exact .inl h0
  · refine .inr ⟨a, len, cap, m, D, Pl, hcs, hb, hl, hm, hmm, fun i him => ?_⟩
    obtain ⟨cs', hc, ht'⟩ := hi i him
    rw [hC] at hc
    obtain ⟨ys, n', hn', hy, hlen, hyl, hf⟩ := DataW.trod_struct he ht'
    obtain ⟨_, hcl, hat⟩ := World.cells?_some hc
    simp only [Prod.mk.injEq] at hy
    refine ⟨ys, n', hy.1, hy.2, hyl, fun j f hj => ?_⟩
    obtain ⟨ho, hk⟩ := hone_of hone j f hj
    have hjl : j < fs.size := (Array.getElem?_eq_some_iff.1 hj).1
    have hcell := hat j hjl
    have hv : cs'[j]? = some (cs'[j]'(by omega)) := List.getElem?_eq_getElem (by omega)
    have h1 := hf j f hj
    rw [ho, hk] at h1
    have hone' : (cs'.drop j).take 1 = [cs'[j]'(by omega)] := by
      rw [List.drop_eq_getElem_cons (by omega)]
      rfl
    rw [hone'] at h1
    have hys : ys[j]? = some (ys[j]'(by omega)) := List.getElem?_eq_getElem (by omega)
    refine ⟨_, _, ?_, hys, h1.trans hys⟩
    rw [← Go.Deep.add_add, hcell, hv]
end
section
variable {H : Type} {enc : TypeId × Value → H} {P : Program}
theorem slice_fieldsK {t e : TypeId} {fs : Array Field} {α : Type} {f : α → List Value} {n : Nat} {W : World} {base : Nat} {v : Value} {d : DataW H} {ps : List MemPlace} {held : Bool} (kd : Nat → IntKind) (ht : P.underlying t = some (.slice e)) (he : P.underlying e = some (.struct fs))
    (hone : oneCellFields P fs = true) (hC : P.cellsOf e = fs.size) (hn : fs.size = n) (hpos : 0 < n) (mk : (Nat → Int) → α) (hmk : ∀ g, (f (mk g)) = (List.range n).map fun j => .int (kd j) (g j)) (hint : ∀ (j : Nat) (fl : Field), fs[j]? = some fl → P.underlying fl.type = some (.int (kd j)))
    (hv : Value.okWide P W .any base t v) (h : DataW.Trod enc P W 0 (fun _ => true) held t v d ps) :
    ∃ xs : List α, Rows f n W v xs ∧ xs.length ≤ maxLen ∧ ∀ x ∈ xs, ∃ g, x = mk g ∧ ∀ j, j < n → (Lit.int (kd j) (g j)).wf = true := by
  obtain ⟨a0, len, cap, rfl⟩ := okWide_slice ht hv
  obtain ⟨fuel, hf⟩ := h
  rcases open_sliceK ht he hone hC hf with ⟨hcs, hx⟩ | ⟨a, len', cap', m, D, Pl, hcs, _, hl, hm, hmm, hcell⟩
  · simp [Value.cells] at hcs
    obtain ⟨rfl, rfl, rfl⟩ := hcs
    exact ⟨[], Rows.nil _ _ _, Nat.zero_le _, by simp⟩
  · simp [Value.cells] at hcs
    obtain ⟨rfl, rfl, rfl⟩ := hcs
    simp only [if_true] at hmm
    subst hmm
    have each : ∀ i, i < len → ∃ g : Nat → Int, ∀ j, j < n → W.cell? (a.add (i * n + j)) = some (.int (kd j) (g j)) ∧ (Lit.int (kd j) (g j)).wf = true := fun i hi => by
      obtain ⟨ys, m, -, -, -, hj⟩ := hcell i (by omega)
      have q : ∀ j, j < n → ∃ z : Int, W.cell? (a.add (i * n + j)) = some (.int (kd j) z) ∧ (Lit.int (kd j) z).wf = true := fun j hjn => by
        have hfl : fs[j]? = some fs[j] := Array.getElem?_eq_getElem (by omega)
        obtain ⟨v, y, g1, -, g3⟩ := hj j _ hfl
        obtain ⟨z, e, -, wf⟩ := DataW.trod_int (hint j _ hfl) g3
        injection e with e _
        exact ⟨z, by rw [← hn, g1, e], wf⟩
      exact choose_lt q
    obtain ⟨q, hq⟩ := choose_lt each
    refine ⟨(List.range len).map fun i => mk (q i), ?_, by simp; omega, fun x hx => ?_⟩
    · by_cases h0 : len = 0
      · subst h0; exact .inl ⟨_, _, rfl, rfl⟩
      · have hn0 := hpos
        obtain ⟨b, off, spot⟩ := a
        have hspot : spot = none := by simpa [Addr.add] using World.cell?_spot ((hq 0 (by omega) 0 hn0).1)
        subst hspot
        have hb := World.block_lt_of_cell? _ _ ((hq 0 (by omega) 0 hn0).1)
        simp only [add_plain] at hb
        refine .inr ⟨b, off, _, by rw [List.length_map, List.length_range], by rw [List.length_map, List.length_range]; omega, hb, fun j x hx i u hu => ?_⟩
        have hj : j < len := by have := (List.getElem?_eq_some_iff.1 hx).1; simpa using this
        rw [List.getElem?_map, List.getElem?_range hj] at hx
        simp at hx
        subst hx
        rw [hmk] at hu
        have hi : i < n := by have := (List.getElem?_eq_some_iff.1 hu).1; simpa using this
        rw [List.getElem?_map, List.getElem?_range hi] at hu
        simp at hu
        subst hu
        have := (hq j hj i hi).1
        simpa [add_plain, Nat.add_assoc] using this
    · simp at hx
      obtain ⟨i, hi, rfl⟩ := hx
      exact ⟨q i, rfl, fun j hj => (hq i hi j hj).2⟩
def kd4 (j : Nat) : IntKind := if j = 2 then .u16 else .i64
theorem Try.und52 : Try.prog.underlying 52 = some (.struct (Try.prog.fieldsOf 52)) := by kernel_rfl
theorem Try.map52 : (Try.prog.fieldsOf 52).toList.map (fun fl => Try.prog.underlying fl.type) = [some (.int .i64), some (.int .i64), some (.int .u16), some (.int .i64)] := by kernel_rfl
theorem Try.one52 : oneCellFields Try.prog (Try.prog.fieldsOf 52) = true := by kernel_rfl
theorem Try.fsz52 : (Try.prog.fieldsOf 52).size = 4 := by kernel_rfl
theorem Try.cls52 : Try.prog.cellsOf 52 = 4 := by kernel_rfl
set_option maxRecDepth 100000 in
theorem slice_steps {W : World} {base : Nat} {v : Value} {d : DataW H} {ps : List MemPlace} {held : Bool} (hv : Value.okWide Try.prog W .any base 49 v) (h : DataW.Trod enc Try.prog W 0 (fun _ => true) held 49 v d ps) :
    ∃ xs : List St, Rows stC 4 W v xs ∧ xs.length ≤ maxLen ∧ ∀ x ∈ xs, x.h ≤ 9223372036854775807 ∧ 0 ≤ x.at_ ∧ x.at_ ≤ 65535 := by
  obtain ⟨xs, h1, h3, h4⟩ := slice_fieldsK (f := stC) (n := 4) kd4 Try.underlying49 Try.und52 Try.one52 (Try.cls52.trans Try.fsz52.symm) Try.fsz52 (by omega) (fun g => ⟨g 0, g 1, g 2, g 3⟩) (fun g => rfl) (by
    intro j fl hj
    rw [← Array.getElem?_toList] at hj
    have h5 : ((Try.prog.fieldsOf 52).toList.map (fun fl => Try.prog.underlying fl.type))[j]? = some (Try.prog.underlying fl.type) := by rw [List.getElem?_map, hj]; rfl
    rw [Try.map52] at h5
    match j with
    | 0 => simpa [kd4] using h5.symm
    | 1 => simpa [kd4] using h5.symm
    | 2 => simpa [kd4] using h5.symm
    | 3 => simpa [kd4] using h5.symm
    | j + 4 => simp at h5) hv h
  refine ⟨xs, h1, h3, fun x hx => ?_⟩
  obtain ⟨g, rfl, hg⟩ := h4 x hx
  have w3 := hg 3 (by omega)
  have w2 := hg 2 (by omega)
  have k3 : kd4 3 = .i64 := rfl
  have k2 : kd4 2 = .u16 := rfl
  rw [k3] at w3
  rw [k2] at w2
  simp only [Lit.wf, Bool.and_eq_true, decide_eq_true_eq] at w2 w3
  have e2 : IntKind.i64.max = 9223372036854775807 := by decide
  have e3 : IntKind.u16.min = 0 := by decide
  have e4 : IntKind.u16.max = 65535 := by decide
  simp only []
  omega
end
end Go.Proofs.Ytokmjjjedljcpaa

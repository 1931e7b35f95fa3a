/- WhArg: texts for the statements of this seat: contracts of functions, walks, plain laws. Conditions: none. -/
import Derived.Test.YtjlcchjcppkbjaaDoorGeAll
import Derived.Test.YtjlcchjcppkbjaaDoorWhCb
set_option linter.all false
/- The arguments of the laws of package wheel. -/
namespace Go.Proofs.YtjlcchjcppkbjaaDoor
open Go.RowKit Go.ChangeShapes Go.WideShapes Go.Deep
/-- A step. -/
structure Sp where
  d : Int
  at_ : Int
  id : Int
  h : Int
def spC (s : Sp) : List Value := [.int .i64 s.d, .int .i64 s.at_, .int .i64 s.id, .int .i64 s.h]
def Sp.wf (s : Sp) : Prop := (-9223372036854775808 ≤ s.d ∧ s.d ≤ 9223372036854775807) ∧ (-9223372036854775808 ≤ s.at_ ∧ s.at_ ≤ 9223372036854775807) ∧ (-9223372036854775808 ≤ s.id ∧ s.id ≤ 9223372036854775807) ∧ (-9223372036854775808 ≤ s.h ∧ s.h ≤ 9223372036854775807)
theorem i64_rng {n : Int} (h : (Lit.int .i64 n).wf = true) : -9223372036854775808 ≤ n ∧ n ≤ 9223372036854775807 := by
  simp only [Lit.wf, Bool.and_eq_true, decide_eq_true_eq] at h
  have e1 : IntKind.i64.min = -9223372036854775808 := by decide
  have e2 : IntKind.i64.max = 9223372036854775807 := by decide
  omega
theorem u8_rng {n : Int} (h : (Lit.int .u8 n).wf = true) : 0 ≤ n ∧ n ≤ 255 := by
  simp only [Lit.wf, Bool.and_eq_true, decide_eq_true_eq] at h
  have e1 : IntKind.u8.min = 0 := by decide
  have e2 : IntKind.u8.max = 255 := by decide
  omega
theorem u16_rng {n : Int} (h : (Lit.int .u16 n).wf = true) : 0 ≤ n ∧ n ≤ 65535 := by
  simp only [Lit.wf, Bool.and_eq_true, decide_eq_true_eq] at h
  have e1 : IntKind.u16.min = 0 := by decide
  have e2 : IntKind.u16.max = 65535 := by decide
  omega
theorem Tryd.map45 : (Tryd.prog.fieldsOf 45).toList.map (fun fl => Tryd.prog.underlying fl.type) = [some (.int .i64), some (.int .i64), some (.int .i64), some (.int .i64)] := by kernel_rfl
theorem Tryd.und45 : Tryd.prog.underlying 45 = some (.struct (Tryd.prog.fieldsOf 45)) := by kernel_rfl
theorem Tryd.one45 : oneCellFields Tryd.prog (Tryd.prog.fieldsOf 45) = true := by kernel_rfl
theorem Tryd.fsz45 : (Tryd.prog.fieldsOf 45).size = 4 := by kernel_rfl
theorem Tryd.cls45 : Tryd.prog.cellsOf 45 = 4 := by kernel_rfl
variable {H : Type} {enc : TypeId × Value → H}
set_option maxRecDepth 100000 in
theorem slice_steps {W : World} {base : Nat} {v : Value} {d : DataW H} {ps : List MemPlace} {held : Bool} (hv : Value.okWide Tryd.prog W .any base 43 v) (h : DataW.Trod enc Tryd.prog W 0 (fun _ => true) held 43 v d ps) :
    ∃ xs : List Sp, Rows spC 4 W v xs ∧ xs.length ≤ maxLen ∧ ∀ x ∈ xs, x.wf := by
  obtain ⟨xs, h1, h3, h4⟩ := slice_fieldsK (f := spC) (n := 4) (fun _ => .i64) Tryd.underlying43 Tryd.und45 Tryd.one45 (Tryd.cls45.trans Tryd.fsz45.symm) Tryd.fsz45 (by omega) (fun g => ⟨g 0, g 1, g 2, g 3⟩) (fun g => rfl) (by
    intro j fl hj
    rw [← Array.getElem?_toList] at hj
    have h5 : ((Tryd.prog.fieldsOf 45).toList.map (fun fl => Tryd.prog.underlying fl.type))[j]? = some (Tryd.prog.underlying fl.type) := by rw [List.getElem?_map, hj]; rfl
    rw [Tryd.map45] at h5
    match j with
    | 0 => simpa using h5.symm
    | 1 => simpa using h5.symm
    | 2 => simpa using h5.symm
    | 3 => simpa using h5.symm
    | j + 4 => simp at h5) hv h
  refine ⟨xs, h1, h3, fun x hx => ?_⟩
  obtain ⟨g, rfl, hg⟩ := h4 x hx
  exact ⟨i64_rng (hg 0 (by omega)), i64_rng (hg 1 (by omega)), i64_rng (hg 2 (by omega)), i64_rng (hg 3 (by omega))⟩

set_option maxRecDepth 100000 in
theorem open_step {W : World} {base : Nat} {v : Value} {d : DataW H} {ps : List MemPlace} {held : Bool} (hv : Value.okWide Tryd.prog W .any base 45 v) (h : DataW.Trod enc Tryd.prog W 0 (fun _ => true) held 45 v d ps) :
    ∃ s : Sp, v = .agg #[.int .i64 s.d, .int .i64 s.at_, .int .i64 s.id, .int .i64 s.h] ∧ s.wf := by
  obtain ⟨v0, v1, v2, v3, y0, y1, y2, y3, n, rfl, -, -, h0, h1, h2, h3⟩ := Go.Joins.open_agg4 Tryd.underlying45 (by kernel_rfl) Tryd.cls45 hv h
  obtain ⟨z0, e0, -, w0⟩ := DataW.trod_int Tryd.underlying3 h0
  obtain ⟨z1, e1, -, w1⟩ := DataW.trod_int Tryd.underlying2 h1
  obtain ⟨z2, e2, -, w2⟩ := DataW.trod_int Tryd.underlying3 h2
  obtain ⟨z3, e3, -, w3⟩ := DataW.trod_int Tryd.underlying2 h3
  injection e0 with e0 _; injection e1 with e1 _; injection e2 with e2 _; injection e3 with e3 _
  subst e0 e1 e2 e3
  exact ⟨⟨z0, z1, z2, z3⟩, rfl, i64_rng w0, i64_rng w1, i64_rng w2, i64_rng w3⟩
end Go.Proofs.YtjlcchjcppkbjaaDoor

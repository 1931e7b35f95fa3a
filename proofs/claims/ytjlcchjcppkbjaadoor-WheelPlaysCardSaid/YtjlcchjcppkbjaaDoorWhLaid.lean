/- WhLaid: texts for the statements of this seat: contracts of functions, walks, plain laws. Conditions: none. -/
import Derived.Test.YtjlcchjcppkbjaaDoorRows
import Derived.ChangeSame
import Derived.ChangeVars
import Derived.JoinedOf
import Derived.RowKit
import Derived.LaidLaws
import Derived.LaidMore
import Derived.LaidHandle
import Derived.ProofKit
import Derived.OpenShut
import Derived.Stop.Joined
import Derived.Test.YtjlcchjcppkbjaaDoorWhTi
set_option linter.all false
/- The table of math/bits reads as listed data: its cells, and a world that holds them. -/
namespace Go.Proofs.YtjlcchjcppkbjaaDoor
open Go.ChangeShapes Go.WideShapes Go.RowKit
open Go.Proofs.YtjlcchjcppkbjaaDoor
variable {H : Type} {enc : TypeId × Value → H} {P : Program} {w : World} {base : Nat} {sp : Nat → Bool} {held : Bool}

theorem mapM_inv {α β : Type} (f : α → Option β) : ∀ {l : List α} {xs : List β}, l.mapM f = some xs → xs.length = l.length ∧ ∀ (i : Nat) (a : α), l[i]? = some a → ∃ b, xs[i]? = some b ∧ f a = some b
  | [], xs, h => by
    simp at h
    subst h
    exact ⟨rfl, fun i a h => by simp at h⟩
  | a :: l, xs, h => by
    simp only [List.mapM_cons, Option.bind_eq_bind, Option.bind_eq_some_iff, Option.pure_def, Option.some.injEq] at h
    obtain ⟨b, hb, ys, hy, rfl⟩ := h
    obtain ⟨h1, h2⟩ := mapM_inv f hy
    refine ⟨by simp [h1], fun i c hc => ?_⟩
    cases i with
    | zero =>
      simp at hc
      subst hc
      exact ⟨b, rfl, hb⟩
    | succ i => exact h2 i c (by simpa using hc)

theorem trod_array_inv {t e n : Nat} {fuel : Nat} {cs : List Value} {d : DataW H} {ps : List MemPlace} (ht : P.underlying t = some (.array n e)) (h : DataW.trod enc P w base sp held fuel t cs = some (d, ps)) :
    cs.length = P.cellsOf t ∧ ∃ ds : List (DataW H), d = .agg ds ∧ ds.length = n ∧ ∀ i, i < n → ∃ di q fuel', ds[i]? = some di ∧ DataW.trod enc P w base sp held fuel' e ((cs.drop (i * P.cellsOf e)).take (P.cellsOf e)) = some (di, q) := by
  cases fuel with
  | zero => simp [DataW.trod] at h
  | succ fuel =>
    simp only [DataW.trod, ht] at h
    split at h
    · rename_i hl
      simp only [Option.map_eq_some_iff] at h
      obtain ⟨xs, hx, he⟩ := h
      obtain ⟨h1, h2⟩ := mapM_inv _ hx
      simp only [Prod.mk.injEq] at he
      refine ⟨hl, _, he.1.symm, by simpa using h1, fun i hi => ?_⟩
      obtain ⟨b, hb, hf⟩ := h2 i i (by simp [hi])
      exact ⟨b.1, b.2, fuel, by simp [hb], hf⟩
    · cases h

theorem trod_int_inv {fuel : Nat} {t : TypeId} {k : IntKind} {cs : List Value} {n : Int} {k' : IntKind} {q : List MemPlace} (ht : P.underlying t = some (.int k)) (h : DataW.trod enc P w base sp held fuel t cs = some (.lit (.int k' n), q)) : cs = [.int k n] := by
  cases fuel with
  | zero => simp [DataW.trod] at h
  | succ fuel =>
    simp only [DataW.trod, ht] at h
    split at h <;> simp_all

theorem Tryd.tabName : Tryd.prog.globalNamed "math/bits.deBruijn64tab" = some 0 := by kernel_rfl
theorem Tryd.tabType : (Tryd.prog.globals[0]?).map (·.type) = some 153 := by kernel_rfl
theorem Tryd.tabUnd : Tryd.prog.underlying 153 = some (.array 64 5) := by kernel_rfl
theorem Tryd.tabElem : Tryd.prog.underlying 5 = some (.int .u8) := by kernel_rfl
theorem Tryd.tabCells : Tryd.prog.cellsOf 5 = 1 := by kernel_rfl

theorem laid_tab_eq : (Rows.laid_math_bits_deBruijn64tab : DataW H) = .agg ((List.range 64).map fun i => .lit (.int .u8 ((Lib.deBruijn64tab.getD i 0 : Nat) : Int))) := rfl

theorem tab_of_trod {l : List Value} {fuel : Nat} {ps : List MemPlace} (h : DataW.trod enc Tryd.prog w base sp held fuel 153 l = some (Rows.laid_math_bits_deBruijn64tab, ps)) (k : Nat) (hk : k < 64) : l[k]? = some (.int .u8 ((Lib.deBruijn64tab.getD k 0 : Nat) : Int)) := by
  rw [laid_tab_eq] at h
  obtain ⟨hl, ds, he, hd, hi⟩ := trod_array_inv Tryd.tabUnd h
  obtain ⟨di, q, fuel', h1, h2⟩ := hi k hk
  injection he with he
  subst he
  rw [List.getElem?_map, List.getElem?_range (by omega)] at h1
  simp only [Option.map_some, Option.some.injEq] at h1
  subst h1
  have h5 := trod_int_inv Tryd.tabElem h2
  rw [Tryd.tabCells] at h5
  have h6 := congrArg (fun q => q[0]?) h5
  simp only [List.getElem?_take_of_lt (show 0 < 1 by omega), List.getElem?_drop] at h6
  rw [show k * 1 + 0 = k by omega] at h6
  exact h6

abbrev laidT : List (String × DataW Unit) := [("math/bits.deBruijn64tab", Rows.laid_math_bits_deBruijn64tab)]

theorem tab_of_laid {W : World} (h : laidMetH Tryd.prog laidT W) : Tab W := by
  rw [MakeChecks.laidMetH_plain _ _ _ (by kernel_rfl)] at h
  obtain ⟨ps, ⟨g0, t0, cs0, f0, p0, q0, hg0, ht0, hv0, hd0, _⟩, _, _⟩ := h
  obtain rfl := Option.some.inj (Tryd.tabName.symm.trans hg0)
  obtain rfl := Option.some.inj (Tryd.tabType.symm.trans ht0)
  intro k hk
  rw [World.var?_cell hg0 hv0 k]
  have := tab_of_trod hd0 k hk
  simpa using this

/-- The door's own heap meets the condition. -/
theorem door_met (os : Os) (args : Array Value) : laidMetH Tryd.prog laidT ((World.doorLaid Tryd.prog 400 os).forCall (fun _ _ => 0) ⟨#[], args, []⟩).memory :=
  laidMetH_of_parts3 (fuel := 8) (laidMet_of_run' 8 (by kernel_rfl) (by kernel_rfl)) (by kernel_rfl) (by kernel_rfl)
end Go.Proofs.YtjlcchjcppkbjaaDoor

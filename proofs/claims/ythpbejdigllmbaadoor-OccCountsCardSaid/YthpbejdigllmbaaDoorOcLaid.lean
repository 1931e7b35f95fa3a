/- Package-level tables that read as listed data: their cells, and a world that holds them. -/
import Derived.Test.YthpbejdigllmbaaDoorRows
import Derived.ChangeSame
import Derived.ChangeVars
import Derived.JoinedOf
import Derived.RowKit
import Derived.LaidLaws
import Derived.LaidMore
import Derived.LaidHandle
import Derived.ProofKit
import Derived.OpenShut
import Derived.Stop.Joined
import Derived.Test.YthpbejdigllmbaaDoorOcPlain
import Derived.Test.YthpbejdigllmbaaDoorOcTbl
namespace Go.Proofs.YthpbejdigllmbaaDoor
open Go.ChangeShapes Go.WideShapes Go.RowKit
open Go.Proofs.YthpbejdigllmbaaDoor
variable {H : Type} {enc : TypeId × Value → H} {P : Program} {w : World} {base : Nat} {sp : Nat → Bool} {held : Bool}

theorem mapM_inv {α β : Type} (f : α → Option β) : ∀ {l : List α} {xs : List β}, l.mapM f = some xs → xs.length = l.length ∧ ∀ (i : Nat) (a : α), l[i]? = some a → ∃ b, xs[i]? = some b ∧ f a = some b
  | [], xs, h => by
    simp at h
    subst h
    exact ⟨rfl, fun i a h => by simp at h⟩
  | a :: l, xs, h => by
    simp only [List.mapM_cons, Option.bind_eq_bind, Option.bind_eq_some_iff, Option.pure_def, Option.some.injEq] at h
    obtain ⟨b, hb, ys, hy, rfl⟩ := h
    obtain ⟨h1, h2⟩ := mapM_inv f hy
    refine ⟨by simp [h1], fun i c hc => ?_⟩
    cases i with
    | zero =>
      simp at hc
      subst hc
      exact ⟨b, rfl, hb⟩
    | succ i => exact h2 i c (by simpa using hc)

theorem trod_array_inv {t e n : Nat} {fuel : Nat} {cs : List Value} {d : DataW H} {ps : List MemPlace} (ht : P.underlying t = some (.array n e)) (h : DataW.trod enc P w base sp held fuel t cs = some (d, ps)) :
    cs.length = P.cellsOf t ∧ ∃ ds : List (DataW H), d = .agg ds ∧ ds.length = n ∧ ∀ i, i < n → ∃ di q fuel', ds[i]? = some di ∧ DataW.trod enc P w base sp held fuel' e ((cs.drop (i * P.cellsOf e)).take (P.cellsOf e)) = some (di, q) := by
  cases fuel with
  | zero => simp [DataW.trod] at h
  | succ fuel =>
    simp only [DataW.trod, ht] at h
    split at h
    · rename_i hl
      simp only [Option.map_eq_some_iff] at h
      obtain ⟨xs, hx, he⟩ := h
      obtain ⟨h1, h2⟩ := mapM_inv _ hx
      simp only [Prod.mk.injEq] at he
      refine ⟨hl, _, he.1.symm, by simpa using h1, fun i hi => ?_⟩
      obtain ⟨b, hb, hf⟩ := h2 i i (by simp [hi])
      exact ⟨b.1, b.2, fuel, by simp [hb], hf⟩
    · cases h

theorem trod_int_inv {fuel : Nat} {t : TypeId} {k : IntKind} {cs : List Value} {n : Int} {k' : IntKind} {q : List MemPlace} (ht : P.underlying t = some (.int k)) (h : DataW.trod enc P w base sp held fuel t cs = some (.lit (.int k' n), q)) : cs = [.int k n] := by
  cases fuel with
  | zero => simp [DataW.trod] at h
  | succ fuel =>
    simp only [DataW.trod, ht] at h
    split at h <;> simp_all
theorem trod_string_inv {fuel : Nat} {t : TypeId} {cs : List Value} {l : List UInt8} {q : List MemPlace} (ht : P.underlying t = some .string) (h : DataW.trod enc P w base sp held fuel t cs = some (.lit (.string l), q)) : cs = [.string ⟨l.toArray⟩] := by
  cases fuel with
  | zero => simp [DataW.trod] at h
  | succ fuel =>
    simp only [DataW.trod, ht] at h
    split at h <;> simp_all
    obtain ⟨_, rfl, rfl⟩ := h
    rename_i b _
    cases b
    rfl

theorem Tryd.leads : Tryd.prog.globalNamed "wakeman/occ.leads" = some 0 := by kernel_rfl
theorem Tryd.names : Tryd.prog.globalNamed "wakeman/occ.names" = some 1 := by kernel_rfl
theorem Tryd.leadsType : (Tryd.prog.globals[0]?).map (·.type) = some 56 := by kernel_rfl
theorem Tryd.namesType : (Tryd.prog.globals[1]?).map (·.type) = some 63 := by kernel_rfl
theorem Tryd.cells56 : Tryd.prog.cellsOf 56 = 42 := by kernel_rfl
theorem Tryd.cells55 : Tryd.prog.cellsOf 55 = 6 := by kernel_rfl
theorem Tryd.cells3 : Tryd.prog.cellsOf 3 = 1 := by kernel_rfl
theorem Tryd.cells63 : Tryd.prog.cellsOf 63 = 7 := by kernel_rfl
theorem Tryd.cells9 : Tryd.prog.cellsOf 9 = 1 := by kernel_rfl

theorem laid_leads_eq : (Rows.laid_wakeman_occ_leads : DataW H) = .agg ((List.range 7).map fun i => .agg ((List.range 6).map fun j => .lit (.int .i64 (octab.getD (i * 6 + j) 0)))) := rfl
theorem laid_names_eq : (Rows.laid_wakeman_occ_names : DataW H) = .agg ((List.range 7).map fun i => .lit (.string (nameL.getD i []))) := rfl

theorem leads_of_trod {l : List Value} {fuel : Nat} {ps : List MemPlace} (h : DataW.trod enc Tryd.prog w base sp held fuel 56 l = some (Rows.laid_wakeman_occ_leads, ps)) (k : Nat) (hk : k < 42) : l[k]? = some (.int .i64 (octab.getD k 0)) := by
  rw [laid_leads_eq] at h
  obtain ⟨hl, ds, he, hd, hi⟩ := trod_array_inv Tryd.underlying56 h
  obtain ⟨di, q, fuel', h1, h2⟩ := hi (k / 6) (by omega)
  injection he with he
  subst he
  rw [List.getElem?_map, List.getElem?_range (by omega)] at h1
  simp only [Option.map_some, Option.some.injEq] at h1
  subst h1
  obtain ⟨hl2, ds2, he2, hd2, hi2⟩ := trod_array_inv Tryd.underlying55 h2
  obtain ⟨dj, q2, fuel2, h3, h4⟩ := hi2 (k % 6) (by omega)
  injection he2 with he2
  subst he2
  rw [List.getElem?_map, List.getElem?_range (by omega)] at h3
  simp only [Option.map_some, Option.some.injEq] at h3
  subst h3
  have h5 := trod_int_inv Tryd.underlying3 h4
  rw [Tryd.cells55, Tryd.cells3] at h5
  have h6 := congrArg (fun q => q[0]?) h5
  simp only [List.getElem?_take_of_lt (show 0 < 1 by omega), List.getElem?_drop] at h6
  rw [List.getElem?_take_of_lt (by omega), List.getElem?_drop] at h6
  rw [show k / 6 * 6 + (k % 6 * 1 + 0) = k by omega, show k / 6 * 6 + k % 6 = k by omega] at h6
  exact h6
theorem names_of_trod {l : List Value} {fuel : Nat} {ps : List MemPlace} (h : DataW.trod enc Tryd.prog w base sp held fuel 63 l = some (Rows.laid_wakeman_occ_names, ps)) (k : Nat) (hk : k < 7) : l[k]? = some (.string ⟨(nameL.getD k []).toArray⟩) := by
  rw [laid_names_eq] at h
  obtain ⟨hl, ds, he, hd, hi⟩ := trod_array_inv Tryd.underlying63 h
  obtain ⟨di, q, fuel', h1, h2⟩ := hi k hk
  injection he with he
  subst he
  rw [List.getElem?_map, List.getElem?_range (by omega)] at h1
  simp only [Option.map_some, Option.some.injEq] at h1
  subst h1
  have h5 := trod_string_inv Tryd.underlying9 h2
  rw [Tryd.cells9] at h5
  have h6 := congrArg (fun q => q[0]?) h5
  simp only [List.getElem?_take_of_lt (show 0 < 1 by omega), List.getElem?_drop] at h6
  rw [show k * 1 + 0 = k by omega] at h6
  exact h6

abbrev laid2 : List (String × DataW Unit) := [("wakeman/occ.leads", Rows.laid_wakeman_occ_leads), ("wakeman/occ.names", Rows.laid_wakeman_occ_names)]

theorem tbl_of_laid {W : World} (h : laidMetH Tryd.prog laid2 W) : Tbl W := by
  rw [MakeChecks.laidMetH_plain _ _ _ (by kernel_rfl)] at h
  obtain ⟨ps, ⟨g0, t0, cs0, f0, p0, q0, hg0, ht0, hv0, hd0, ⟨g1, t1, cs1, f1, p1, q1, hg1, ht1, hv1, hd1, _, _⟩, _⟩, _, _⟩ := h
  obtain rfl := Option.some.inj (Tryd.leads.symm.trans hg0)
  obtain rfl := Option.some.inj (Tryd.names.symm.trans hg1)
  obtain rfl := Option.some.inj (Tryd.leadsType.symm.trans ht0)
  obtain rfl := Option.some.inj (Tryd.namesType.symm.trans ht1)
  have c1 : ∀ k, k < 42 → W.cell? ⟨0, k, none⟩ = some (.int .i64 (octab.getD k 0)) := fun k hk => by
    rw [World.var?_cell hg0 hv0 k]
    have := leads_of_trod hd0 k hk
    simpa using this
  have c2 : ∀ k, k < 7 → W.cell? ⟨1, k, none⟩ = some (.string ⟨(nameL.getD k []).toArray⟩) := fun k hk => by
    rw [World.var?_cell hg1 hv1 k]
    have := names_of_trod hd1 k hk
    simpa using this
  exact ⟨c1, c2, World.block_lt_of_cell? _ _ (c2 0 (by omega))⟩

/-- The door's own heap meets the condition. -/
theorem door_met (os : Os) (args : Array Value) : laidMetH Tryd.prog laid2 ((World.doorLaid Tryd.prog 400 os).forCall (fun _ _ => 0) ⟨#[], args, []⟩).memory :=
  laidMetH_of_parts3 (fuel := 8) (laidMet_of_run' 8 (by kernel_rfl) (by kernel_rfl)) (by kernel_rfl) (by kernel_rfl)
end Go.Proofs.YthpbejdigllmbaaDoor

/- WhWheel: texts for the statements of this seat: contracts of functions, walks, plain laws. Conditions: none. -/
import Derived.Test.YtjlcchjcppkbjaaDoorWhFirst
set_option linter.all false
/- The wheel in memory: its lists, its map, its arena. -/
namespace Go.Proofs.YtjlcchjcppkbjaaDoor
open Go.RowKit

/-! ### Pointers to timers as elements of a map -/
def encB (x : Option Nat) : Value := .pointer (x.map fun b => ⟨b, 0, none⟩)
def datB : Option Nat → DataW Unit
  | some b => .lit (.int .i64 b)
  | none => .agg []
def readB (v : Value) : Option (DataW Unit × List MemPlace) :=
  match v with
  | .pointer none => some (.agg [], [])
  | .pointer (some ⟨b, 0, none⟩) => some (.lit (.int .i64 b), [])
  | _ => none
theorem codeB : ECode readB encB datB where
  at_ x := by cases x <;> rfl
  inv v x ps h := by
    unfold readB at h
    split at h
    · injection h with h; injection h with h _
      cases x with
      | none => rfl
      | some b => cases h
    · rename_i c
      injection h with h; injection h with h _
      cases x with
      | none => cases h
      | some b =>
        injection h with h
        injection h with _ h
        obtain rfl : c = b := by omega
        rfl
    · cases h
  shape v y h := by
    unfold readB at h
    split at h
    · exact ⟨none, rfl⟩
    · rename_i b; exact ⟨some b, rfl⟩
    · cases h
/-- What the map holds. -/
def gm (l : List Pt) (h : Int) : Option (Option Nat) := (l.find? fun t => decide (t.x.h = h)).map fun t => some t.b
theorem gm_nil (h : Int) : gm [] h = none := rfl
theorem gm_cons (t : Pt) (l : List Pt) (h : Int) : gm (t :: l) h = if t.x.h = h then some (some t.b) else gm l h := by
  unfold gm
  rw [List.find?_cons]
  by_cases e : t.x.h = h <;> simp [e]
theorem gm_none {l : List Pt} {h : Int} : gm l h = none ↔ ∀ t ∈ l, t.x.h ≠ h := by
  unfold gm
  simp
theorem gm_some {l : List Pt} {h : Int} {x : Option Nat} (e : gm l h = some x) : ∃ t ∈ l, t.x.h = h ∧ x = some t.b := by
  unfold gm at e
  obtain ⟨t, h1, h2⟩ := Option.map_eq_some_iff.1 e
  have h3 := List.find?_some h1
  exact ⟨t, List.mem_of_find?_eq_some h1, by simpa using h3, h2.symm⟩
theorem gm_mem {l : List Pt} (hn : (l.map fun t => t.x.h).Nodup) {t : Pt} (ht : t ∈ l) : gm l t.x.h = some (some t.b) := by
  induction l with
  | nil => simp at ht
  | cons u l ih =>
    rw [List.map_cons, List.nodup_cons] at hn
    rw [gm_cons]
    rcases List.mem_cons.1 ht with rfl | hm
    · rw [if_pos rfl]
    · rw [if_neg (fun e => hn.1 (List.mem_map.2 ⟨t, hm, e.symm⟩))]
      exact ih hn.2 hm
theorem gm_congr {l m : List Pt} (hl : (l.map fun t => t.x.h).Nodup) (hm : (m.map fun t => t.x.h).Nodup) (h : ∀ t, t ∈ l ↔ t ∈ m) (r : Int) : gm l r = gm m r := by
  cases e : gm l r with
  | none =>
    symm
    rw [gm_none] at e ⊢
    exact fun t ht => e t ((h t).2 ht)
  | some x =>
    obtain ⟨t, h1, h2, rfl⟩ := gm_some e
    rw [← h2]
    exact (gm_mem hm ((h t).1 h1)).symm
theorem gm_strike (l : List Pt) (x r : Int) : gm (l.filter fun t => decide (t.x.h ≠ x)) r = if r = x then none else gm l r := by
  induction l with
  | nil => simp [gm_nil]
  | cons u l ih =>
    rw [List.filter_cons]
    by_cases e : u.x.h = x
    · subst e
      simp only [ne_eq, not_true_eq_false, decide_false]
      rw [if_neg (by simp)]
      simp only [ne_eq] at ih
      rw [ih, gm_cons]
      by_cases e2 : r = u.x.h
      · rw [if_pos e2, if_pos e2]
      · rw [if_neg e2, if_neg e2, if_neg (fun q => e2 q.symm)]
    · simp only [ne_eq, e, not_false_eq_true, decide_true, if_true]
      simp only [ne_eq] at ih
      rw [gm_cons, ih, gm_cons]
      by_cases e2 : r = x
      · subst e2; rw [if_neg e, if_pos rfl, if_pos rfl]
      · rw [if_neg e2, if_neg e2]

/-- The wheel in memory: tsP in the lists, tsM in the map. -/
structure WMem (w : World) (base wb ab sb cap mb : Nat) (kd : Nat → Nat) (fr now seq : Int) (a : AA) (tsP tsM : List Pt) : Prop where
  core : ∃ V Q, Core w wb base V Q kd fr ∧ Placed fr tsP Q
  c0 : w.cell? ⟨wb, 0, none⟩ = some (.int .i64 now)
  c2 : w.cell? ⟨wb, 2, none⟩ = some (.int .i64 seq)
  c3 : w.cell? ⟨wb, 3, none⟩ = some (.pointer (some ⟨ab, 0, none⟩))
  c4 : w.cell? ⟨wb, 4, none⟩ = some (.map (some mb))
  ar : IsA w ab sb cap a
  map : ∃ n : Nat, (n : Int) ≤ seq + 4096 ∧ MapN Tryd.prog 30 readB datB w mb n tsM.length (gm tsM)
  kab : kd ab = 2
  ksb : kd sb = 3
  kmb : kd mb = 4
variable {w w' : World} {base wb ab sb cap mb : Nat} {kd kd' : Nat → Nat} {fr now seq : Int} {a a' : AA} {tsP tsM : List Pt}
theorem WMem.kw (h : WMem w base wb ab sb cap mb kd fr now seq a tsP tsM) : kd wb = 1 := let ⟨_, _, C, _⟩ := h.core; C.R.kw
theorem WMem.lo (h : WMem w base wb ab sb cap mb kd fr now seq a tsP tsM) : ∀ b, kd b ≠ 0 → base ≤ b ∧ b < w.heap.size := let ⟨_, _, C, _⟩ := h.core; C.R.lo
theorem WMem.ltw (h : WMem w base wb ab sb cap mb kd fr now seq a tsP tsM) : wb < w.heap.size := let ⟨_, _, C, _⟩ := h.core; C.R.ltw
theorem WMem.fz (h : WMem w base wb ab sb cap mb kd fr now seq a tsP tsM) (o : Nat) : w.frozen? ⟨wb, o, none⟩ = false := let ⟨_, _, C, _⟩ := h.core; C.fz o
theorem WMem.c1 (h : WMem w base wb ab sb cap mb kd fr now seq a tsP tsM) : w.cell? ⟨wb, 1, none⟩ = some (.int .i64 fr) := let ⟨_, _, C, _⟩ := h.core; C.fr
/-- A timer of the lists in memory. -/
theorem WMem.tm (h : WMem w base wb ab sb cap mb kd fr now seq a tsP tsM) {t : Pt} (ht : t ∈ tsP) : kd t.b = 400 ∧ TmIn w t (pos fr t.x.at_) := by
  obtain ⟨V, Q, C, M⟩ := h.core
  have h1 := M.in_ ht
  exact ⟨C.R.kT _ (pos_lt _ _) t h1, C.R.tm _ (pos_lt _ _) t h1⟩
theorem WMem.inj (h : WMem w base wb ab sb cap mb kd fr now seq a tsP tsM) : ∀ t ∈ tsP, ∀ u ∈ tsP, t.b = u.b → t = u := let ⟨_, _, _, M⟩ := h.core; M.inj
/-- Writes elsewhere. -/
theorem WMem.kept {S : Nat → Prop} (h : WMem w base wb ab sb cap mb kd fr now seq a tsP tsM) (K : Kept S w w') (hS : ∀ b, kd b ≠ 0 → ¬ S b) : WMem w' base wb ab sb cap mb kd fr now seq a tsP tsM := by
  have kw := h.kw
  have lw := h.ltw
  obtain ⟨⟨V, Q, C, M⟩, h0, h2, h3, h4, h5, ⟨n, h6, h7⟩, k1, k2, k3⟩ := h
  exact ⟨⟨V, Q, C.kept K (hS wb (by omega)) (fun i hi b hb => hS b (by have := C.R.kV i hi b hb; omega)) (fun i hi t ht => hS t.b (by have := C.R.kT i hi t ht; omega)), M⟩,
    (K.cell (a := ⟨wb, 0, none⟩) lw (hS wb (by omega))).trans h0, (K.cell (a := ⟨wb, 2, none⟩) lw (hS wb (by omega))).trans h2, (K.cell (a := ⟨wb, 3, none⟩) lw (hS wb (by omega))).trans h3, (K.cell (a := ⟨wb, 4, none⟩) lw (hS wb (by omega))).trans h4,
    h5.kept K (hS ab (by omega)) (hS sb (by omega)), ⟨n, h6, h7.kept K (hS mb (by omega))⟩, k1, k2, k3⟩
theorem WMem.same (h : WMem w base wb ab sb cap mb kd fr now seq a tsP tsM) (K : Kept (fun _ => False) w w') : WMem w' base wb ab sb cap mb kd fr now seq a tsP tsM := h.kept K (fun _ _ h => h)
/-- A step of the lists alone. -/
theorem WMem.lists (h : WMem w base wb ab sb cap mb kd fr now seq a tsP tsM) {fr' : Int} {tsP' : List Pt} {S : Nat → Prop} (hc : ∃ V Q, Core w' wb base V Q kd' fr' ∧ Placed fr' tsP' Q) (hk : ∀ b, b < w.heap.size → kd' b = kd b)
    (low : ∀ o, o < 5 → o ≠ 1 → w'.cell? ⟨wb, o, none⟩ = w.cell? ⟨wb, o, none⟩) (K : Kept S w w') (hS : ∀ b, kd b = 2 ∨ kd b = 3 ∨ kd b = 4 → ¬ S b) : WMem w' base wb ab sb cap mb kd' fr' now seq a tsP' tsM := by
  obtain ⟨-, h0, h2, h3, h4, h5, ⟨n, h6, h7⟩, k1, k2, k3⟩ := h
  exact ⟨hc, (low 0 (by omega) (by omega)).trans h0, (low 2 (by omega) (by omega)).trans h2, (low 3 (by omega) (by omega)).trans h3, (low 4 (by omega) (by omega)).trans h4, h5.kept K (hS ab (.inl k1)) (hS sb (.inr (.inl k2))), ⟨n, h6, h7.kept K (hS mb (.inr (.inr k3)))⟩,
    (hk ab h5.lta).trans k1, (hk sb h5.lts).trans k2, (hk mb h7.lt).trans k3⟩
end Go.Proofs.YtjlcchjcppkbjaaDoor

/- ArRSet: texts for the statements of this seat: contracts of functions, walks, plain laws. Conditions: none. -/
import Derived.Test.YtokmjjjedljcpaaArRRead
set_option linter.all false
/- Stores into the document's arena. -/
namespace Go.Proofs.Ytokmjjjedljcpaa
open Go.RowKit
theorem own_set {w : World} {base e n g c k : Nat} {xs : List Value} {u : Value} (h : w.ownsRow base e 1 (.slice (some ⟨g, 0, none⟩) n c) n xs) : (w.setCell ⟨g, k, none⟩ u).ownsRow base e 1 (.slice (some ⟨g, 0, none⟩) n c) n (xs.set k u) := by
  refine ⟨by rw [List.length_set]; exact h.1, ?_⟩
  rcases h.2 with ⟨q, -⟩ | ⟨g', cap', cur, q, h1, h2, h3, h4, h5, h6⟩
  · cases q
  · injection q with q q2 q3
    injection q with q
    injection q with q
    subst q q3
    refine .inr ⟨g, c, cur.setIfInBounds k u, rfl, h1, ?_, h3, h4, by simpa using h5, ?_⟩
    · simp [World.setCell, Array.getElem?_modify, h2]
    · rw [Array.toList_setIfInBounds, List.take_set, h6]
theorem own_firstN {w : World} {base e g n cap : Nat} {xs : List Value} (h : w.ownsRow base e 1 (.slice (some ⟨g, 0, none⟩) n cap) n xs) {m : Nat} (hm : m ≤ n) : w.ownsRow base e 1 (.slice (some ⟨g, 0, none⟩) m cap) m (xs.take m) := by
  have hl := h.1
  rcases h.2 with ⟨q, -⟩ | ⟨g', cap', cur, q, hg, hh, h1, h2, h3, h4⟩
  · cases q
  · injection q with q q2 q3
    injection q with q
    injection q with q
    subst q q3
    refine ⟨by rw [List.length_take]; omega, .inr ⟨g, cap, cur, rfl, hg, hh, by omega, h2, h3, ?_⟩⟩
    rw [← h4, List.take_take, Nat.min_eq_left (by omega), Nat.mul_one]
variable {w : World} {base rb : Nat} {v1 v2 v3 v4 : Value} {a : AA}
theorem kept_set (w : World) (g k : Nat) (u : Value) : Kept (fun b => b = g) w (w.setCell ⟨g, k, none⟩ u) := (Kept.refl _ _).setCell _ _ (fun _ => rfl)
/-- The number of uses of a slot. -/
theorem IsR.setUse {g c k : Nat} {s : U} (h : IsR w base rb (.slice (some ⟨g, 0, none⟩) a.sl.length c) v2 v3 v4 a) (hs : a.sl[k]? = some s) (x : Int) : IsR (w.setCell ⟨g, k, none⟩ (.int .i64 x)) base rb (.slice (some ⟨g, 0, none⟩) a.sl.length c) v2 v3 v4 { a with sl := a.sl.set k { s with use := x } } := by
  have K := kept_set w g k (.int .i64 x)
  have d := h.a1 g rfl
  refine ⟨RowAt.kept h.hd K (fun q => d.1 q.symm), ?_, ?_, ?_, ownsRow_kept h.frd K (fun b _ q r => by subst r; exact d.2.2.2 q), h.a1, h.a2, h.a3, h.a4, h.lo⟩
  · simp only [List.length_set]
    rw [List.map_set]
    exact own_set h.uses
  · simp only [List.length_set]
    have e : (a.sl.set k { s with use := x }).map (fun s => Value.bool s.taken) = a.sl.map fun s => Value.bool s.taken := by
      rw [List.map_set]
      exact List.ext_getElem? fun i => by
        by_cases hi : i = k
        · subst hi
          have hk := (List.getElem?_eq_some_iff.1 hs).1
          rw [List.getElem?_set_self (by simpa using hk), List.getElem?_map, hs]; rfl
        · rw [List.getElem?_set_ne (fun q => hi q.symm)]
    rw [e]
    exact ownsRow_kept h.tks K (fun b _ q r => by subst r; exact d.2.1 q)
  · simp only [List.length_set]
    have e : (a.sl.set k { s with use := x }).map (fun s => Value.int .i64 s.v) = a.sl.map fun s => Value.int .i64 s.v := by
      rw [List.map_set]
      exact List.ext_getElem? fun i => by
        by_cases hi : i = k
        · subst hi
          have hk := (List.getElem?_eq_some_iff.1 hs).1
          rw [List.getElem?_set_self (by simpa using hk), List.getElem?_map, hs]; rfl
        · rw [List.getElem?_set_ne (fun q => hi q.symm)]
    rw [e]
    exact ownsRow_kept h.vs K (fun b _ q r => by subst r; exact d.2.2.1 q)
theorem IsR.setTaken {g c k : Nat} {s : U} (h : IsR w base rb v1 (.slice (some ⟨g, 0, none⟩) a.sl.length c) v3 v4 a) (hs : a.sl[k]? = some s) (x : Bool) : IsR (w.setCell ⟨g, k, none⟩ (.bool x)) base rb v1 (.slice (some ⟨g, 0, none⟩) a.sl.length c) v3 v4 { a with sl := a.sl.set k { s with taken := x } } := by
  have K := kept_set w g k (.bool x)
  have d := h.a2 g rfl
  refine ⟨RowAt.kept h.hd K (fun q => d.1 q.symm), ?_, ?_, ?_, ownsRow_kept h.frd K (fun b _ q r => by subst r; exact d.2.2 q), h.a1, h.a2, h.a3, h.a4, h.lo⟩
  · simp only [List.length_set]
    have e : (a.sl.set k { s with taken := x }).map (fun s => Value.int .i64 s.use) = a.sl.map fun s => Value.int .i64 s.use := by
      rw [List.map_set]
      exact List.ext_getElem? fun i => by
        by_cases hi : i = k
        · subst hi
          have hk := (List.getElem?_eq_some_iff.1 hs).1
          rw [List.getElem?_set_self (by simpa using hk), List.getElem?_map, hs]; rfl
        · rw [List.getElem?_set_ne (fun q => hi q.symm)]
    rw [e]
    exact ownsRow_kept h.uses K (fun b _ q r => by subst r; exact (h.a1 b q).2.1 rfl)
  · simp only [List.length_set]
    rw [List.map_set]
    exact own_set h.tks
  · simp only [List.length_set]
    have e : (a.sl.set k { s with taken := x }).map (fun s => Value.int .i64 s.v) = a.sl.map fun s => Value.int .i64 s.v := by
      rw [List.map_set]
      exact List.ext_getElem? fun i => by
        by_cases hi : i = k
        · subst hi
          have hk := (List.getElem?_eq_some_iff.1 hs).1
          rw [List.getElem?_set_self (by simpa using hk), List.getElem?_map, hs]; rfl
        · rw [List.getElem?_set_ne (fun q => hi q.symm)]
    rw [e]
    exact ownsRow_kept h.vs K (fun b _ q r => by subst r; exact d.2.1 q)
theorem IsR.setV {g c k : Nat} {s : U} (h : IsR w base rb v1 v2 (.slice (some ⟨g, 0, none⟩) a.sl.length c) v4 a) (hs : a.sl[k]? = some s) (x : Int) : IsR (w.setCell ⟨g, k, none⟩ (.int .i64 x)) base rb v1 v2 (.slice (some ⟨g, 0, none⟩) a.sl.length c) v4 { a with sl := a.sl.set k { s with v := x } } := by
  have K := kept_set w g k (.int .i64 x)
  have d := h.a3 g rfl
  refine ⟨RowAt.kept h.hd K (fun q => d.1 q.symm), ?_, ?_, ?_, ownsRow_kept h.frd K (fun b _ q r => by subst r; exact d.2 q), h.a1, h.a2, h.a3, h.a4, h.lo⟩
  · simp only [List.length_set]
    have e : (a.sl.set k { s with v := x }).map (fun s => Value.int .i64 s.use) = a.sl.map fun s => Value.int .i64 s.use := by
      rw [List.map_set]
      exact List.ext_getElem? fun i => by
        by_cases hi : i = k
        · subst hi
          have hk := (List.getElem?_eq_some_iff.1 hs).1
          rw [List.getElem?_set_self (by simpa using hk), List.getElem?_map, hs]; rfl
        · rw [List.getElem?_set_ne (fun q => hi q.symm)]
    rw [e]
    exact ownsRow_kept h.uses K (fun b _ q r => by subst r; exact (h.a1 b q).2.2.1 rfl)
  · simp only [List.length_set]
    have e : (a.sl.set k { s with v := x }).map (fun s => Value.bool s.taken) = a.sl.map fun s => Value.bool s.taken := by
      rw [List.map_set]
      exact List.ext_getElem? fun i => by
        by_cases hi : i = k
        · subst hi
          have hk := (List.getElem?_eq_some_iff.1 hs).1
          rw [List.getElem?_set_self (by simpa using hk), List.getElem?_map, hs]; rfl
        · rw [List.getElem?_set_ne (fun q => hi q.symm)]
    rw [e]
    exact ownsRow_kept h.tks K (fun b _ q r => by subst r; exact (h.a2 b q).2.1 rfl)
  · simp only [List.length_set]
    rw [List.map_set]
    exact own_set h.vs
/-- Another list of free slots. -/
theorem IsR.setFreed {v' : Value} {fl' : List Nat} (h : IsR w base rb v1 v2 v3 v4 a) (ho : w.ownsRow base 3 1 v' fl'.length (fl'.reverse.map fun (k : Nat) => .int .i64 k)) (hb : ∀ b, v'.ownBlock = some b → v4.ownBlock = some b ∨ ¬ FR rb v1 v2 v3 v4 b) : IsR (w.setCell ⟨rb, 4, none⟩ v') base rb v1 v2 v3 v' { a with fl := fl' } := by
  have K := kept_set w rb 4 v'
  have hn : ∀ b, v'.ownBlock = some b → b ≠ rb ∧ ¬ v1.ownBlock = some b ∧ ¬ v2.ownBlock = some b ∧ ¬ v3.ownBlock = some b := fun b q => by
    rcases hb b q with r | r
    · exact ⟨h.a4 b r, fun z => (h.a1 b z).2.2.2 r, fun z => (h.a2 b z).2.2 r, fun z => (h.a3 b z).2 r⟩
    · exact ⟨fun z => r (.inl z), fun z => r (.inr (.inl z)), fun z => r (.inr (.inr (.inl z))), fun z => r (.inr (.inr (.inr (.inl z))))⟩
  exact ⟨by have := RowAt.set h.hd (j := 4) (by simp) v'; simpa using this,
    ownsRow_kept h.uses K (fun b _ q r => (h.a1 b q).1 r), ownsRow_kept h.tks K (fun b _ q r => (h.a2 b q).1 r), ownsRow_kept h.vs K (fun b _ q r => (h.a3 b q).1 r), ownsRow_kept ho K (fun b _ q r => (hn b q).1 r),
    fun b q => ⟨(h.a1 b q).1, (h.a1 b q).2.1, (h.a1 b q).2.2.1, fun z => (hn b z).2.1 q⟩, fun b q => ⟨(h.a2 b q).1, (h.a2 b q).2.1, fun z => (hn b z).2.2.1 q⟩, fun b q => ⟨(h.a3 b q).1, fun z => (hn b z).2.2.2 q⟩, fun b q => (hn b q).1, h.lo⟩
theorem IsR.setFreed2 {w5 : World} {v' : Value} {fl' : List Nat} (h : IsR w base rb v1 v2 v3 v4 a) (K5 : Kept (fun b => v4.ownBlock = some b) w w5) (ho : w5.ownsRow base 3 1 v' fl'.length (fl'.reverse.map fun (k : Nat) => .int .i64 k)) (hb : ∀ b, v'.ownBlock = some b → v4.ownBlock = some b ∨ ¬ FR rb v1 v2 v3 v4 b) : IsR (w5.setCell ⟨rb, 4, none⟩ v') base rb v1 v2 v3 v' { a with fl := fl' } := by
  have K := kept_set w5 rb 4 v'
  have hn : ∀ b, v'.ownBlock = some b → b ≠ rb ∧ ¬ v1.ownBlock = some b ∧ ¬ v2.ownBlock = some b ∧ ¬ v3.ownBlock = some b := fun b q => by
    rcases hb b q with r | r
    · exact ⟨h.a4 b r, fun z => (h.a1 b z).2.2.2 r, fun z => (h.a2 b z).2.2 r, fun z => (h.a3 b z).2 r⟩
    · exact ⟨fun z => r (.inl z), fun z => r (.inr (.inl z)), fun z => r (.inr (.inr (.inl z))), fun z => r (.inr (.inr (.inr (.inl z))))⟩
  have hd5 := RowAt.kept h.hd K5 (fun q => h.a4 rb q rfl)
  exact ⟨by have := RowAt.set hd5 (j := 4) (by simp) v'; simpa using this,
    ownsRow_kept (ownsRow_kept h.uses K5 (fun b _ q r => (h.a1 b q).2.2.2 r)) K (fun b _ q r => (h.a1 b q).1 r), ownsRow_kept (ownsRow_kept h.tks K5 (fun b _ q r => (h.a2 b q).2.2 r)) K (fun b _ q r => (h.a2 b q).1 r), ownsRow_kept (ownsRow_kept h.vs K5 (fun b _ q r => (h.a3 b q).2 r)) K (fun b _ q r => (h.a3 b q).1 r), ownsRow_kept ho K (fun b _ q r => (hn b q).1 r),
    fun b q => ⟨(h.a1 b q).1, (h.a1 b q).2.1, (h.a1 b q).2.2.1, fun z => (hn b z).2.1 q⟩, fun b q => ⟨(h.a2 b q).1, (h.a2 b q).2.1, fun z => (hn b z).2.2.1 q⟩, fun b q => ⟨(h.a3 b q).1, fun z => (hn b z).2.2.2 q⟩, fun b q => (hn b q).1, h.lo⟩
end Go.Proofs.Ytokmjjjedljcpaa

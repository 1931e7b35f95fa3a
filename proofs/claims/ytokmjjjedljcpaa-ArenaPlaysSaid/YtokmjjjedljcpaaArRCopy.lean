/- ArRCopy: texts for the statements of this seat: contracts of functions, walks, plain laws. Conditions: none. -/
import Derived.Deep.RegionLaw
import Derived.Test.YtokmjjjedljcpaaArRPut
import Derived.Test.YtokmjjjedljcpaaArRefNew
set_option linter.all false
/- Copy and New of the document's arena. -/
namespace Go.Proofs.Ytokmjjjedljcpaa
open Go.RowKit
theorem row_of_heap {w : World} {b e : Nat} {cs : Array Value} (h : w.heap[b]? = some (.cells cs e)) : RowAt w b cs.toList where
  cell := fun j v hv => by
    rw [Nat.zero_add]
    simp [World.cell?, h]
    simpa using hv
  fz := fun o => by simp [World.frozen?, h]
  lt := (Array.getElem?_eq_some_iff.1 h).1
theorem own_of_heap {w : World} {b e n base : Nat} {z : Value} (h : w.heap[b]? = some (.cells (Array.replicate n z) e)) (hn : n ≤ 4096) (hb : base ≤ b) : w.ownsRow base e 1 (.slice (some ⟨b, 0, none⟩) n n) n (List.replicate n z) :=
  ⟨by simp, .inr ⟨b, n, Array.replicate n z, rfl, hb, h, Nat.le_refl _, by unfold maxLen; omega, by simp, by simp⟩⟩
theorem rnew_r (n : Nat) (w : World) (hn : n ≤ 4096) : Calls Try.prog 18 #[.int .i64 n] w fun e w' => ∃ rb v1 v2 v3 v4, e = .returned (.tuple #[.pointer (some ⟨rb, 0, none⟩), .int .i64 0]) ∧ IsR w' w.heap.size rb v1 v2 v3 v4 (AA.empty n) ∧ Kept (fun _ => False) w w' := by
  refine (rnew_yes n w hn).mono ?_
  rintro e w' ⟨rb, ub, tb, vb, rfl, K, h0, h1, h2, h3, b0, b1, b2, b3⟩
  have d1 : ub ≠ rb := fun q => by subst q; rw [h0] at h1; simp at h1
  have d2 : ub ≠ tb := fun q => by subst q; rw [h2] at h1; simp at h1
  have d3 : ub ≠ vb := fun q => by subst q; rw [h3] at h1; simp at h1
  have d4 : tb ≠ rb := fun q => by subst q; rw [h0] at h2; simp at h2
  have d5 : tb ≠ vb := fun q => by subst q; rw [h3] at h2; simp at h2
  have d6 : vb ≠ rb := fun q => by subst q; rw [h0] at h3; simp at h3
  refine ⟨rb, _, _, _, _, rfl, ⟨row_of_heap h0, ?_, ?_, ?_, ⟨rfl, .inl ⟨rfl, rfl⟩⟩, ?_, ?_, ?_, ?_, b0⟩, K⟩
  · have := own_of_heap h1 hn b1
    simpa [AA.empty] using this
  · have := own_of_heap h2 hn b2
    simpa [AA.empty] using this
  · have := own_of_heap h3 hn b3
    simpa [AA.empty] using this
  · intro b q
    simp only [Value.ownBlock, Option.some.injEq] at q ⊢
    subst q
    exact ⟨d1, fun z => d2 z.symm, fun z => d3 z.symm, fun z => by cases z⟩
  · intro b q
    simp only [Value.ownBlock, Option.some.injEq] at q ⊢
    subst q
    exact ⟨d4, fun z => d5 z.symm, fun z => by cases z⟩
  · intro b q
    simp only [Value.ownBlock, Option.some.injEq] at q ⊢
    subst q
    exact ⟨d6, fun z => by cases z⟩
  · intro b q
    cases q
/-- append of an own row to nil as a step of a region that draws. -/
theorem step_nil {P : Program} {ops : Array Oper} {o : Oper} {a : Act} {K : Act → World → Prop} {Q : Exit → Act → World → Prop} {E0 : Prop} {t e bytes : Nat} (hgd : o.guard = none) (s x : Operand)
    (ho : o.op = .call { callee := .builtin .append, args := #[s, x], argTypes := #[t, t] }) (E : ElemOk P t e 1 bytes) (hby8 : bytes ≤ 8) {W : World} (base : Nat) (v : Value) (m : Nat) (xs : List Value) (hs : a.eval s = .slice none 0 0)
    (hx : a.eval x = v) (hown : W.ownsRow base e 1 v m xs) (h1 : ∀ u ∈ xs, u.oneCell' = true) (hm : m ≤ 4096)
    (h : ∀ p c w', w'.ownsRow W.heap.size e 1 (.slice p m c) m xs → Kept (fun _ => False) W w' → K (a.put o.dst (.slice p m c)) w') :
    if Region.wanted o (yielded ops a.tmps) = true then Oper.wp P o a W K Q else E0 := by
  have hw : Region.wanted o (yielded ops a.tmps) = true := by simp [Region.wanted, hgd]
  rw [if_pos hw]
  obtain ⟨i, z, hi, hz, hsz, hby, hzs⟩ := E.info
  rcases Nat.eq_zero_or_pos m with h0 | h0
  · subst h0
    have hxl := hown.1
    rw [Nat.zero_mul] at hxl
    obtain rfl := List.eq_nil_of_length_eq_zero hxl
    obtain ⟨p, c, rfl⟩ := own_v hown
    have hr := run_append_nothing W t t o.type e i E.under hi none 0 0 (Nat.le_refl _) (.slice p 0 c) (by rw [hsz]; exact src_none W E.under p c)
    unfold Oper.wp execOp
    simp only [ho, resolve, invoke, builtin, Sem.run_bind, Sem.run_pure, Result.andThen_ok, List.map_toArray, List.map_cons, List.map_nil, hs, hx, hr]
    exact h none 0 _ ⟨rfl, .inl ⟨rfl, rfl⟩⟩ (Kept.refl _ _)
  · obtain ⟨g, c, rfl, hg⟩ := ownsRow_pos hown h0
    have hcells : ∀ j u, xs[j]? = some u → W.cell? ((⟨g, 0, none⟩ : Addr).add j) = some u := fun j u hj => by
      have hjm : j < m := by have := (List.getElem?_eq_some_iff.1 hj).1; have := hown.1; omega
      rw [Addr.add_mid, Nat.zero_add, hown.cellAt j (by omega), hj]
    obtain ⟨v', w', hr, hown', hg', hor⟩ := run_append_new (P := P) W W.heap.size t o.type e i z 1 bytes E.under hi hz hsz hby hzs E.pos (.slice none 0 0) 0 [] ⟨rfl, .inl ⟨rfl, rfl⟩⟩ ⟨g, 0, none⟩ m c xs (by have := hown.1; omega) hcells h1 (by unfold maxLen; omega) (by have : (0 + m) * bytes ≤ 4096 * 8 := Nat.mul_le_mul (by omega) hby8; omega) (Nat.le_refl _) h0
    rw [Nat.zero_add, List.nil_append] at hown'
    obtain ⟨p', c', rfl⟩ := own_v hown'
    unfold Oper.wp execOp
    simp only [ho, resolve, invoke, builtin, Sem.run_bind, Sem.run_pure, Result.andThen_ok, List.map_toArray, List.map_cons, List.map_nil, hs, hx, hr]
    exact h _ _ _ hown' ((Kept.of_grown hg').mono (fun b _ q => by cases q))
end Go.Proofs.Ytokmjjjedljcpaa

/- GeApp3: texts for the statements of this seat: contracts of functions, walks, plain laws. Conditions: none. -/
import Derived.Deep.Upon
import Derived.Test.YtelgknecainlfaaGeAppN
import Derived.Test.YtelgknecainlfaaGeInts
set_option linter.all false
/- append of whatever reads as numbers, to a row of the call's own. -/
namespace Go.Proofs.Ytelgknecainlfaa
open Go.RowKit
variable {P : Program}
theorem src_none {size : Nat} {tx e' : TypeId} (w : World) (hk : P.underlying tx = some (.slice e')) (a : Option Addr) (c : Nat) : Src P size tx (.slice a 0 c) 0 [] w := by
  cases a with
  | none => exact Src.ofNil w hk c
  | some a => exact Src.ofSlice w hk a 0 c [] (by simp) (fun j u h => by simp at h) (fun u h => by cases h)
theorem wpList_appInts {t e : Nat} (E : ElemOk P t e 1 8) {ops : Array Oper} {rest : List Oper} {o : Oper} {a : Act} {Q : Exit → Act → World → Prop} (hgd : o.guard = none) (s x : Operand)
    (ho : o.op = .call { callee := .builtin .append, args := #[s, x], argTypes := #[t, t] }) {W : World} (base : Nat) (v u : Value) (n : Nat) (xs : List Value) (ys : List Int) (hs : a.eval s = v) (hx : a.eval x = u)
    (hown : W.ownsRow base e 1 v n xs) (hu : Ints W u ys) (h63 : n + ys.length ≤ 1000000000) (hbase : base ≤ W.heap.size)
    (h : ∀ v' w', w'.ownsRow base e 1 v' (n + ys.length) (xs ++ ys.map (Value.int .i64)) → Kept (fun b => v.ownBlock = some b) W w' → wpList P ops Q rest (a.put o.dst v') w') :
    wpList P ops Q (o :: rest) a W := by
  rcases hu with ⟨b, cap, rfl, rfl⟩ | ⟨b, off, cap, rfl, hb, hc⟩
  · have h' := h v W (by simpa using hown) (Kept.refl _ _)
    obtain ⟨i, z, hi, -, -, -, -⟩ := E.info
    obtain ⟨av, cv, rfl, hcv⟩ : ∃ av cv, v = .slice av n cv ∧ n ≤ cv := by
      rcases hown.2 with ⟨rfl, h0⟩ | ⟨g, cv, cur, rfl, hbg, hg, hnc, -⟩
      · exact ⟨none, 0, by rw [h0], by omega⟩
      · exact ⟨_, cv, rfl, hnc⟩
    have hr := run_append_nothing (P := P) W t t o.type e i E.under hi av n cv hcv (.slice b 0 cap) (src_none W E.under b cap)
    refine wpList_plain hgd fun _ hK => ?_
    unfold Oper.wp execOp
    simp only [ho, resolve, invoke, builtin, Sem.run_bind, Sem.run_pure, Result.andThen_ok, List.map_toArray, List.map_cons, List.map_nil, hs, hx, hr]
    exact hK _ _ h'
  · refine wpList_appA E hgd s x ho base v n xs hs hown b off ys.length cap (ys.map (Value.int .i64)) hx (by simp) ?_ ?_ (by unfold maxLen; omega) (by omega) hbase h
    · intro u hu
      obtain ⟨y, -, rfl⟩ := List.mem_map.1 hu
      rfl
    · intro j u hj
      rw [List.getElem?_map] at hj
      obtain ⟨y, hy, rfl⟩ := Option.map_eq_some_iff.1 hj
      exact hc j y hy
/-- A row without elements, just made. -/
theorem own_empty (w : World) (t size : Nat) : (w.alloc (.cells #[] t)).ownsRow w.heap.size t size (.slice (some ⟨w.heap.size, 0, none⟩) 0 0) 0 [] := by
  refine ⟨by simp, .inr ⟨w.heap.size, 0, #[], rfl, Nat.le_refl _, ?_, by simp, by simp, by simp, by simp⟩⟩
  show (w.heap.push _)[w.heap.size]? = _
  rw [Array.getElem?_push_size]
/-- One cell of a row of the call's own is stored. -/
theorem ownsRow_putAt {W : World} {base e size g n cg : Nat} {xs : List Value} (h : W.ownsRow base e size (.slice (some ⟨g, 0, none⟩) n cg) n xs) (j : Nat) (y : Value) :
    (W.setCell ⟨g, j, none⟩ y).ownsRow base e size (.slice (some ⟨g, 0, none⟩) n cg) n (xs.set j y) := by
  refine ⟨by rw [List.length_set]; exact h.1, ?_⟩
  rcases h.2 with ⟨q, -⟩ | ⟨g', cap', cur, q, hg, hh, h1, h2, h3, h4⟩
  · cases q
  · injection q with q q2 q3
    injection q with q
    injection q with q
    subst q q3
    refine .inr ⟨g, cg, cur.setIfInBounds j y, rfl, hg, ?_, h1, h2, by simpa using h3, ?_⟩
    · simp [World.setCell, Array.getElem?_modify, hh]
    · rw [Array.toList_setIfInBounds, List.take_set, h4]
theorem ownsRow_frozen {W : World} {base e size g n cg : Nat} {xs : List Value} (h : W.ownsRow base e size (.slice (some ⟨g, 0, none⟩) n cg) n xs) (j : Nat) : W.frozen? ⟨g, j, none⟩ = false := by
  rcases h.2 with ⟨q, -⟩ | ⟨g', cap', cur, q, hg, hh, -⟩
  · cases q
  · injection q with q q2 q3
    injection q with q
    injection q with q
    subst q
    simp [World.frozen?, hh]
end Go.Proofs.Ytelgknecainlfaa

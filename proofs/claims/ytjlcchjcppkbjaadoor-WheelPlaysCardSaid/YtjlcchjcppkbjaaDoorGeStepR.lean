/- GeStepR: texts for the statements of this seat: contracts of functions, walks, plain laws. Conditions: none. -/
import Derived.Test.YtjlcchjcppkbjaaDoorGeAll
set_option linter.all false
/- append of whatever reads as structs, as a step of a region that draws. -/
namespace Go.Proofs.YtjlcchjcppkbjaaDoor
open Go.RowKit
variable {P : Program}
theorem step_rows {α : Type} {f : α → List Value} {t e size bytes : Nat} {ops : Array Oper} {o : Oper} {a : Act} {w : World} {K : Act → World → Prop} {Q : Exit → Act → World → Prop} {R : Prop} (hg : o.guard = none) (s x : Operand)
    (hop : o.op = Op.call { callee := Callee.builtin Builtin.append, args := #[s, x], argTypes := #[t, t] }) (E : ElemOk P t e size bytes) (hf : ∀ x, (f x).length = size) (hone : ∀ x, ∀ u ∈ f x, u.oneCell' = true) (base : Nat) (v u : Value) (n : Nat) (xs : List Value) (ys : List α)
    (hs : a.eval s = v) (hx : a.eval x = u) (hown : w.ownsRow base e size v n xs) (hu : Rows f size w u ys) (h63 : n + ys.length ≤ 1000000) (hby : bytes ≤ 1000) (hB : base ≤ w.heap.size)
    (hK : ∀ v' w', w'.ownsRow base e size v' (n + ys.length) (xs ++ cellsL f ys) → Kept (fun b => v.ownBlock = some b) w w' → (∀ b, v'.ownBlock = some b → v.ownBlock = some b ∨ w.heap.size ≤ b) → K (a.put o.dst v') w') :
    if Region.wanted o (yielded ops a.tmps) = true then Oper.wp P o a w K Q else R := by
  have hw : Region.wanted o (yielded ops a.tmps) = true := by simp [Region.wanted, hg]
  rw [if_pos hw]
  obtain ⟨i, z, hi, hz, hsz, hbyt, hzs⟩ := E.info
  rcases Nat.eq_zero_or_pos ys.length with h0 | h0
  · obtain rfl := List.eq_nil_of_length_eq_zero h0
    obtain ⟨b, cap, rfl⟩ := hu.len
    have h' := hK v w (by simpa [cellsL] using hown) (Kept.refl _ _) (fun _ q => .inl q)
    obtain ⟨av, cv, rfl, hcv⟩ : ∃ av cv, v = .slice av n cv ∧ n ≤ cv := by
      rcases hown.2 with ⟨rfl, h0⟩ | ⟨g, cv, cur, rfl, hbg, hg, hnc, -⟩
      · exact ⟨none, 0, by rw [h0], by omega⟩
      · exact ⟨_, cv, rfl, hnc⟩
    have hr := run_append_nothing (P := P) w t t o.type e i E.under hi av n cv hcv (.slice b 0 cap) (src_none w E.under b cap)
    unfold Oper.wp execOp
    simp only [hop, resolve, invoke, builtin, Sem.run_bind, Sem.run_pure, Result.andThen_ok, List.map_toArray, List.map_cons, List.map_nil, hs, hx, List.length_nil, hr]
    exact h'
  · obtain ⟨b, off, cap, hv, hcap, hb, hc⟩ := hu.pos h0
    rw [hv] at hx hu
    have hrng := hu.range hf h0
    obtain ⟨v', w', hr, hown', hgr, hor⟩ := run_append_new (P := P) w base t o.type e i z size bytes E.under hi hz hsz hbyt hzs E.pos v n xs hown ⟨b, off, none⟩ ys.length cap (cellsL f ys) (cellsL_length hf ys)
      (fun j u hj => by rw [Addr.add_mid]; exact hrng j u hj) (cellsL_all hone ys) (by unfold maxLen; omega) (Nat.le_trans (Nat.mul_le_mul_left (n + ys.length) hby) (by omega)) hB h0
    unfold Oper.wp execOp
    simp only [hop, resolve, invoke, builtin, Sem.run_bind, Sem.run_pure, Result.andThen_ok, List.map_toArray, List.map_cons, List.map_nil, hs, hx, hr]
    refine hK v' w' hown' (Kept.of_grown hgr) fun b' q => ?_
    rcases hor with hor | hor
    · left; rw [← hor]; exact q
    · right; rw [hor] at q; injection q with q; omega
end Go.Proofs.YtjlcchjcppkbjaaDoor

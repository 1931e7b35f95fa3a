/- GeAppN: texts for the statements of this seat: contracts of functions, walks, plain laws. Conditions: none. -/
import Derived.Deep.MidRow
import Derived.Laws.AppendOwnNone
import Derived.Test.YtelgknecainlfaaGeApp
set_option linter.all false
/- append of m elements, just built, to a row of the call's own; append of a slice's elements of any size. -/
namespace Go.Proofs.Ytelgknecainlfaa
open Go.RowKit
variable {P : Program}
theorem wpList_appS {t e size bytes : Nat} (E : ElemOk P t e size bytes) {ops : Array Oper} {rest : List Oper} {o : Oper} {a : Act} {Q : Exit → Act → World → Prop} (hgd : o.guard = none) (s x : Operand)
    (ho : o.op = .call { callee := .builtin .append, args := #[s, x], argTypes := #[t, t] }) {W : World} (base : Nat) (v : Value) (n : Nat) (xs : List Value) (hs : a.eval s = v)
    (hown : W.ownsRow base e size v n xs) (b off m c : Nat) (news : List Value) (hx : a.eval x = .slice (some ⟨b, off, none⟩) m c) (hl : news.length = m * size) (hm : 0 < m) (h1 : ∀ u ∈ news, u.oneCell' = true)
    (hc : W.rangeAt b off news) (h63 : n + m ≤ maxLen) (hbytes : (n + m) * bytes ≤ 140737488355328) (hbase : base ≤ W.heap.size)
    (h : ∀ g cap w', w'.ownsRow base e size (.slice (some ⟨g, 0, none⟩) (n + m) cap) (n + m) (xs ++ news) → Kept (fun b => v.ownBlock = some b) W w' → (v.ownBlock = some g ∨ W.heap.size ≤ g) → wpList P ops Q rest (a.put o.dst (.slice (some ⟨g, 0, none⟩) (n + m) cap)) w') :
    wpList P ops Q (o :: rest) a W := by
  obtain ⟨i, z, hi, hz, hsz, hby, hzs⟩ := E.info
  obtain ⟨v', w', hr, hown', hg, hor⟩ := run_append_new (P := P) W base t o.type e i z size bytes E.under hi hz hsz hby hzs E.pos v n xs hown ⟨b, off, none⟩ m c news hl (fun j u hj => by rw [Addr.add_mid]; exact hc j u hj) h1 h63 hbytes hbase hm
  refine wpList_plain hgd fun _ hK => ?_
  unfold Oper.wp execOp
  simp only [ho, resolve, invoke, builtin, Sem.run_bind, Sem.run_pure, Result.andThen_ok, List.map_toArray, List.map_cons, List.map_nil, hs, hx, hr]
  have hex : ∃ g cap, v' = .slice (some ⟨g, 0, none⟩) (n + m) cap := by
    rcases hown'.2 with ⟨-, h0⟩ | ⟨g, cap, cur, hv, -⟩
    · omega
    · exact ⟨g, cap, hv⟩
  obtain ⟨g, cap, rfl⟩ := hex
  refine hK _ _ (h g cap w' hown' (Kept.of_grown hg) ?_)
  rcases hor with hor | hor
  · left; rw [← hor]; rfl
  · right
    simp [Value.ownBlock] at hor
    omega
/-- m elements just built. -/
theorem wpList_appN {t e size bytes : Nat} (E : ElemOk P t e size bytes) {ops : Array Oper} {rest : List Oper} {o : Oper} {a : Act} {Q : Exit → Act → World → Prop} (hgd : o.guard = none) (s x : Operand)
    (ho : o.op = .call { callee := .builtin .append, args := #[s, x], argTypes := #[t, t] }) {W : World} {news : List Value} (base : Nat) (v : Value) (n m : Nat) (xs : List Value) (hs : a.eval s = v)
    (hown : W.ownsRow base e size v n xs) (hx : a.eval x = .slice (some ⟨W.heap.size, 0, none⟩) m m) (hl : news.length = m * size) (hm : 0 < m) (h1 : ∀ u ∈ news, u.oneCell' = true)
    (h63 : n + m ≤ maxLen) (hbytes : (n + m) * bytes ≤ 140737488355328) (hbase : base ≤ W.heap.size)
    (h : ∀ g cap w', w'.ownsRow base e size (.slice (some ⟨g, 0, none⟩) (n + m) cap) (n + m) (xs ++ news) → Kept (fun b => v.ownBlock = some b) W w' → (v.ownBlock = some g ∨ W.heap.size ≤ g) → wpList P ops Q rest (a.put o.dst (.slice (some ⟨g, 0, none⟩) (n + m) cap)) w') :
    wpList P ops Q (o :: rest) a (W.alloc (.cells news.toArray e)) := by
  refine wpList_appS E hgd s x ho base v n xs hs (hown.alloc _) W.heap.size 0 m m news hx hl hm h1 ?_ h63 hbytes (by simp; omega) ?_
  · intro j u hj
    rw [World.cell?_alloc_at _ _ _ _ rfl, Nat.zero_add]
    simpa using hj
  · intro g cap w' h2 K hor
    refine h g cap w' h2 (((Kept.refl (fun b => v.ownBlock = some b) W).alloc _).trans K (fun i _ hi => hi)) ?_
    rcases hor with h | h
    · exact .inl h
    · simp at h; right; omega
/-- However many. -/
theorem wpList_appA {t e size bytes : Nat} (E : ElemOk P t e size bytes) {ops : Array Oper} {rest : List Oper} {o : Oper} {a : Act} {Q : Exit → Act → World → Prop} (hgd : o.guard = none) (s x : Operand)
    (ho : o.op = .call { callee := .builtin .append, args := #[s, x], argTypes := #[t, t] }) {W : World} (base : Nat) (v : Value) (n : Nat) (xs : List Value) (hs : a.eval s = v)
    (hown : W.ownsRow base e size v n xs) (b off m c : Nat) (news : List Value) (hx : a.eval x = .slice (some ⟨b, off, none⟩) m c) (hl : news.length = m * size) (h1 : ∀ u ∈ news, u.oneCell' = true)
    (hc : W.rangeAt b off news) (h63 : n + m ≤ maxLen) (hbytes : (n + m) * bytes ≤ 140737488355328) (hbase : base ≤ W.heap.size)
    (h : ∀ v' w', w'.ownsRow base e size v' (n + m) (xs ++ news) → Kept (fun b => v.ownBlock = some b) W w' → wpList P ops Q rest (a.put o.dst v') w') :
    wpList P ops Q (o :: rest) a W := by
  obtain ⟨i, z, hi, hz, hsz, hby, hzs⟩ := E.info
  refine wpList_append_own _ hgd s x t ho base e i z size bytes E.under hi hz hsz hby hzs E.pos v n xs hs hown ⟨b, off, none⟩ m c news hx hl ?_ h1 h63 hbytes hbase ?_
  · intro j u hj
    rw [Addr.add_mid]
    exact hc j u hj
  · intro v' w' hown' hg _
    exact h v' w' hown' (Kept.of_grown hg)
/-- Nothing, out of a nil slice. -/
theorem wpList_appNil {t e size bytes : Nat} (E : ElemOk P t e size bytes) {ops : Array Oper} {rest : List Oper} {o : Oper} {a : Act} {Q : Exit → Act → World → Prop} (hgd : o.guard = none) (s x : Operand)
    (ho : o.op = .call { callee := .builtin .append, args := #[s, x], argTypes := #[t, t] }) {W : World} (base : Nat) (v : Value) (n : Nat) (xs : List Value) (hs : a.eval s = v)
    (hown : W.ownsRow base e size v n xs) (hx : a.eval x = .slice none 0 0) (h : wpList P ops Q rest (a.put o.dst v) W) : wpList P ops Q (o :: rest) a W := by
  obtain ⟨i, z, hi, -, hsz, -, -⟩ := E.info
  exact wpList_append_own_none hgd s x t ho base e i size E.under hi v n xs hs hown hx h
end Go.Proofs.Ytelgknecainlfaa

/- TrClone: texts for the statements of this seat: contracts of functions, walks, plain laws. Conditions: none. -/
import Derived.Lib.Slices
import Derived.Lib.SlicesMore
import Derived.Test.YtfhlllmicobafaaTrUnder
import Derived.Test.YtfhlllmicobafaaTrOpen
import Derived.Test.YtfhlllmicobafaaGeAll
set_option linter.all false
/- Clone of events. -/
namespace Go.Proofs.Ytfhlllmicobafaa
open Go.RowKit
open Tr (Ev)
variable {α : Type} {f : α → List Value} {P : Program}
/-- append of whatever reads as structs. -/
theorem wpList_appRows {t e size bytes : Nat} (E : ElemOk P t e size bytes) {ops : Array Oper} {rest : List Oper} {o : Oper} {a : Act} {Q : Exit → Act → World → Prop} (hgd : o.guard = none) (s x : Operand)
    (ho : o.op = .call { callee := .builtin .append, args := #[s, x], argTypes := #[t, t] }) {W : World} (base : Nat) (v u : Value) (n : Nat) (xs : List Value) (ys : List α) (hf : ∀ x, (f x).length = size) (h1 : ∀ x, ∀ u ∈ f x, u.oneCell' = true) (hs : a.eval s = v) (hx : a.eval x = u)
    (hown : W.ownsRow base e size v n xs) (hu : Rows f size W u ys) (hz : Nz u) (h63 : n + ys.length ≤ maxLen) (hbytes : (n + ys.length) * bytes ≤ 140737488355328) (hbase : base ≤ W.heap.size)
    (h : ∀ v' w', w'.ownsRow base e size v' (n + ys.length) (xs ++ cellsL f ys) → Kept (fun b => v.ownBlock = some b) W w' → wpList P ops Q rest (a.put o.dst v') w') :
    wpList P ops Q (o :: rest) a W := by
  rcases hu with ⟨ad, cap, rfl, rfl⟩ | ⟨b, off, cap, rfl, hcap, hb, hr⟩
  · cases ad with
    | none =>
      obtain ⟨-, rfl⟩ := hz _ _ rfl
      exact wpList_appNil E hgd s x ho base v n xs hs hown hx (h v W (by simpa [cellsL] using hown) (Kept.refl _ _))
    | some ad =>
      obtain ⟨i, z, hi, hz2, hsz, hby, hzs⟩ := E.info
      refine wpList_append_own _ hgd s x t ho base e i z size bytes E.under hi hz2 hsz hby hzs E.pos v n xs hs hown ad 0 cap [] hx (by simp) (fun j u hj => by simp at hj) (fun u hu => by simp at hu) h63 hbytes hbase ?_
      intro v' w' hown' hg _
      exact h v' w' (by simpa [cellsL] using hown') (Kept.of_grown hg)
  · refine wpList_appA E hgd s x ho base v n xs hs hown b off ys.length cap (cellsL f ys) hx (cellsL_length hf ys) (cellsL_all h1 ys) ?_ h63 hbytes hbase h
    rcases Nat.eq_zero_or_pos ys.length with h0 | h0
    · obtain rfl := List.eq_nil_of_length_eq_zero h0
      intro j u hj
      simp [cellsL] at hj
    · exact Rows.range (c := cap) (m := ys.length) hf (.inr ⟨b, off, cap, rfl, hcap, hb, hr⟩) h0
set_option maxRecDepth 100000 in
theorem clone20_c {w : World} {v : Value} {l : List Ev} (h : Evs w v l) (hz : Nz v) (hl : l.length ≤ 1000000) : Calls Try.prog 20 #[v] w fun e w' => ∃ u, e = .returned u ∧ ERO w w' u l := by
  have own0 := own_empty w 35 8
  have k0 : Kept (fun _ => False) w (w.alloc (.cells #[] 35)) := (Kept.refl _ _).alloc _
  have HO := Lib.hid own0
  have HE := Lib.hid (h.same k0)
  have HZ := Lib.hid hz
  have HL := Lib.hid hl
  have hfin : ∀ u w', w'.ownsRow w.heap.size 35 8 u (l.length) (cellsL evC l) → Kept (fun b => (Value.slice (some ⟨w.heap.size, 0, none⟩) 0 0).ownBlock = some b) (w.alloc (.cells #[] 35)) w' → ERO w w' u l := fun u w' h1 h2 => by
    have K : Kept (fun _ => False) w w' := k0.trans h2 (fun i hi q => by simp [Value.ownBlock] at q; omega)
    exact ⟨h1, K.size, K⟩
  have HF := Lib.hid hfin
  have hN : (∃ a cap, v = .slice (some a) l.length cap) ∨ (v = .slice none 0 0 ∧ l = []) := by
    rcases h with ⟨a, cap, rfl, rfl⟩ | ⟨b, off, cap, rfl, -⟩
    · cases a with
      | none => obtain ⟨-, rfl⟩ := hz 0 cap rfl; exact .inr ⟨rfl, rfl⟩
      | some a => exact .inl ⟨a, cap, rfl⟩
    · exact .inl ⟨_, cap, rfl⟩
  clear own0 k0 hfin h hz hl
  have hnil : ∀ (w : World) (a : Option Addr) (n c n' c' : Nat), (binOp .eql 22 (.slice a n c) (.slice none n' c')).run Try.prog w = .ok (.bool a.isNone) w := fun w a n c n' c' => Lib.run_eql_slice_nil w _ _ a n c n' c' Try.underlying22
  rcases hN with ⟨a, cap, rfl⟩ | ⟨rfl, rfl⟩
  · generalize hn : l.length = n at HE HF HZ HL ⊢
    have HN := Lib.hid hn
    clear hn
    go_enter Try.func20, Try.ntmps20
    go_wp2_with (at_builtin; go_loud (refine wpList_appRows el22 rfl (.tmp 5) (.tmp 6) rfl w.heap.size _ _ 0 [] l evC_len evC_one rfl rfl HO.out HE.out HZ.out (by rw [HN.out]; have := HL.out; unfold maxLen; omega) (by rw [HN.out]; have := HL.out; omega) (by simp) ?_))
    intro v' w' o1 o2
    have HX := Lib.hid (HF.out v' w' (by rw [← HN.out]; simpa using o1) o2)
    clear o1 o2
    go_wp2
    go_ret
    exact ⟨_, rfl, HX.out⟩
  · go_enter Try.func20, Try.ntmps20
    go_wp2
    go_ret
    exact ⟨_, rfl, RO.start _ _ _ w⟩
end Go.Proofs.Ytfhlllmicobafaa

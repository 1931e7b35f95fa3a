/- GeStep: texts for the statements of this seat: contracts of functions, walks, plain laws. Conditions: none. -/
import Derived.Test.YtelgknecainlfaaGeApp3
import Derived.Test.YtelgknecainlfaaGeRow
set_option linter.all false
/- Two appends as steps of a region that draws: whatever reads as numbers, to an empty slice; one more number. -/
namespace Go.Proofs.Ytelgknecainlfaa
open Go.RowKit
variable {P : Program}

/-- A row that the call has made, or an empty slice without room. -/
def Fr (B e : Nat) (w : World) (v : Value) (ys : List Int) : Prop := (ys = [] ∧ ∃ b, v = .slice b 0 0) ∨ 0 < ys.length ∧ ∃ base, B ≤ base ∧ base ≤ w.heap.size ∧ w.ownsRow base e 1 v ys.length (ys.map (Value.int .i64))
theorem Fr.kept {B e : Nat} {w w' : World} {v : Value} {ys : List Int} (h : Fr B e w v ys) (K : Kept (fun _ => False) w w') : Fr B e w' v ys := by
  rcases h with h | ⟨h0, base, hB, hb, ho⟩
  · exact .inl h
  · exact .inr ⟨h0, base, hB, Nat.le_trans hb K.size, ownsRow_kept ho K (fun _ _ _ h => h)⟩
theorem Fr.ints {B e : Nat} {w : World} {v : Value} {ys : List Int} (h : Fr B e w v ys) : Ints w v ys := by
  rcases h with ⟨rfl, b, rfl⟩ | ⟨h0, base, hB, hb, ho⟩
  · exact .inl ⟨b, 0, rfl, rfl⟩
  · exact IntsK.of_own ho
theorem src_ints {t e : Nat} {w : World} {u : Value} {ys : List Int} (hk : P.underlying t = some (.slice e)) (hu : Ints w u ys) : Src P 1 t u ys.length (ys.map (Value.int .i64)) w := by
  rcases hu with ⟨b, cap, rfl, rfl⟩ | ⟨b, off, cap, rfl, hb, hc⟩
  · exact src_none w hk b cap
  · refine Src.ofSlice w hk ⟨b, off, none⟩ ys.length cap _ (by simp) (fun j u hj => ?_) (fun u hu => ?_)
    · rw [List.getElem?_map] at hj
      obtain ⟨y, hy, rfl⟩ := Option.map_eq_some_iff.1 hj
      rw [Addr.add_mid]
      exact hc j y hy
    · obtain ⟨y, -, rfl⟩ := List.mem_map.1 hu
      rfl
theorem run_app0 {t e ty : Nat} (E : ElemOk P t e 1 8) (w : World) (b : Option Addr) {u : Value} {ys : List Int} (hu : Ints w u ys) (hl : ys.length ≤ 1000000) {B : Nat} (hB : B ≤ w.heap.size) :
    ∃ v' w', (Builtin.append_ #[t, t] ty #[.slice b 0 0, u]).run P w = .ok v' w' ∧ Fr B e w' v' ys ∧ Kept (fun _ => False) w w' := by
  obtain ⟨i, z, hi, hz, hsz, hby, hzs⟩ := E.info
  have hs := src_ints E.under hu
  rcases Nat.eq_zero_or_pos ys.length with h0 | h0
  · obtain rfl := List.eq_nil_of_length_eq_zero h0
    exact ⟨_, w, run_append_nothing w t t ty e i E.under hi b 0 0 (Nat.le_refl _) u (by rw [hsz]; exact hs), .inl ⟨rfl, b, rfl⟩, Kept.refl _ _⟩
  · have hr := run_append_grow_src (P := P) w t t ty e i z E.under hi hz b 0 0 [] ((src_none (size := i.size) w.drew E.under b 0).cells) u ys.length (ys.map (Value.int .i64)) (by rw [hsz]; exact hs) (by omega) (by omega)
      (growslice_ok (n := 0) (m := ys.length) (cap := 0) (b := i.bytes) (by omega) (by rw [hby]; omega))
    refine ⟨_, _, hr, .inr ⟨h0, w.heap.size, hB, by simp, ?_⟩, ((Kept.refl _ w).drew).alloc _⟩
    have hge := grownCap_ge w (0 + ys.length) 0 e
    have hcm : grownCap w (0 + ys.length) 0 e ≤ maxLen := grownCap_le_maxLen w (0 + ys.length) 0 e (by unfold maxLen; omega)
    rw [Nat.zero_add] at *
    refine ⟨by simp, .inr ⟨w.heap.size, _, _, rfl, Nat.le_refl _, heap_alloc_new w.drew _, hge, hcm, ?_, ?_⟩⟩
    · simp only [Array.size_append, List.size_toArray, size_zeroCells, hzs, List.length_append, List.length_map, List.length_nil]
      omega
    · simp only [List.nil_append, Array.toList_append]
      exact List.take_left' (by simp)
theorem run_app1 {t e ty : Nat} (E : ElemOk P t e 1 8) (w : World) {v u : Value} {ys zs : List Int} {B : Nat} (hv : Fr B e w v ys) (hu : Ints w u zs) (hl : ys.length + zs.length ≤ 1000000) (hB : B ≤ w.heap.size) :
    ∃ v' w', (Builtin.append_ #[t, t] ty #[v, u]).run P w = .ok v' w' ∧ Ints w' v' (ys ++ zs) ∧ Kept (fun b => B ≤ b) w w' := by
  obtain ⟨i, z, hi, hz, hsz, hby, hzs⟩ := E.info
  rcases hv with ⟨rfl, b, rfl⟩ | ⟨h0, base, hBb, hb, ho⟩
  · obtain ⟨v', w', h1, h2, h3⟩ := run_app0 (ty := ty) E w b hu (by simpa using hl) hB
    exact ⟨v', w', h1, by simpa using h2.ints, h3.mono fun _ _ h => h.elim⟩
  · rcases hu with ⟨a, cap, rfl, rfl⟩ | ⟨a, off, cap, rfl, hab, hc⟩
    · obtain ⟨g, cg, rfl, hg⟩ := ownsRow_pos ho h0
      have hcg : ys.length ≤ cg := by
        rcases ho.2 with ⟨q, -⟩ | ⟨g', cap', cur, q, _, _, h1, -⟩
        · cases q
        · injection q with _ _ e3; omega
      refine ⟨_, w, run_append_nothing w t t ty e i E.under hi _ ys.length cg hcg _ (by rw [hsz]; exact src_none w E.under a cap), ?_, Kept.refl _ _⟩
      rw [List.append_nil]
      exact IntsK.of_own ho
    · obtain ⟨v', w', h1, h2, h3, -⟩ := run_append_own (P := P) w base t ty e i z 1 8 E.under hi hz hsz hby hzs (by decide) v ys.length _ ho ⟨a, off, none⟩ zs.length cap (zs.map (Value.int .i64)) (by simp)
        (fun j u hj => by
          rw [List.getElem?_map] at hj
          obtain ⟨y, hy, rfl⟩ := Option.map_eq_some_iff.1 hj
          rw [Addr.add_mid]
          exact hc j y hy) (fun u hu => by obtain ⟨y, -, rfl⟩ := List.mem_map.1 hu; rfl) (by unfold maxLen; omega) (by omega) hb
      refine ⟨v', w', h1, ?_, (Kept.of_grown h3).mono fun b _ h => Nat.le_trans hBb (ownsRow_block ho h).1⟩
      refine IntsK.of_own (base := base) (e := e) ?_
      rw [List.length_append, List.map_append]
      exact h2
theorem step_app0 {t e : Nat} {ops : Array Oper} {o : Oper} {a : Act} {w : World} {K : Act → World → Prop} {Q : Exit → Act → World → Prop} {R : Prop} (hg : o.guard = none) (s x : Operand)
    (hop : o.op = Op.call { callee := Callee.builtin Builtin.append, args := #[s, x], argTypes := #[t, t] }) (E : ElemOk P t e 1 8) (B : Nat) (b : Option Addr) (u : Value) (ys : List Int)
    (hs : a.eval s = .slice b 0 0) (hx : a.eval x = u) (hu : Ints w u ys) (hl : ys.length ≤ 1000000) (hB : B ≤ w.heap.size)
    (hK : ∀ v' w', Fr B e w' v' ys → Kept (fun _ => False) w w' → K (a.put o.dst v') w') : if Region.wanted o (yielded ops a.tmps) = true then Oper.wp P o a w K Q else R := by
  have hw : Region.wanted o (yielded ops a.tmps) = true := by simp [Region.wanted, hg]
  rw [if_pos hw]
  obtain ⟨v', w', hrun, h2, h3⟩ := run_app0 (P := P) (ty := o.type) E w b hu hl hB
  unfold Oper.wp
  simp [execOp, hop, resolve, invoke, builtin, hs, hx, hrun, Result.andThen]
  exact hK v' w' h2 h3
theorem step_app1 {t e : Nat} {ops : Array Oper} {o : Oper} {a : Act} {w : World} {K : Act → World → Prop} {Q : Exit → Act → World → Prop} {R : Prop} (hg : o.guard = none) (s x : Operand)
    (hop : o.op = Op.call { callee := Callee.builtin Builtin.append, args := #[s, x], argTypes := #[t, t] }) (E : ElemOk P t e 1 8) (B : Nat) (v u : Value) (ys zs : List Int)
    (hs : a.eval s = v) (hx : a.eval x = u) (hv : Fr B e w v ys) (hu : Ints w u zs) (hl : ys.length + zs.length ≤ 1000000) (hB : B ≤ w.heap.size)
    (hK : ∀ v' w', Ints w' v' (ys ++ zs) → Kept (fun b => B ≤ b) w w' → K (a.put o.dst v') w') : if Region.wanted o (yielded ops a.tmps) = true then Oper.wp P o a w K Q else R := by
  have hw : Region.wanted o (yielded ops a.tmps) = true := by simp [Region.wanted, hg]
  rw [if_pos hw]
  obtain ⟨v', w', hrun, h2, h3⟩ := run_app1 (P := P) (ty := o.type) E w hv hu hl hB
  unfold Oper.wp
  simp [execOp, hop, resolve, invoke, builtin, hs, hx, hrun, Result.andThen]
  exact hK v' w' h2 h3
theorem one_int {w : World} {b : Nat} {x : Int} (hb : b < w.heap.size) (hc : w.cell? ⟨b, 0, none⟩ = some (.int .i64 x)) : Ints w (.slice (some ⟨b, 0, none⟩) 1 1) [x] := by
  refine .inr ⟨b, 0, 1, rfl, hb, fun j y hj => ?_⟩
  cases j with
  | zero => simp at hj; subst hj; exact hc
  | succ j => simp at hj
end Go.Proofs.Ytelgknecainlfaa

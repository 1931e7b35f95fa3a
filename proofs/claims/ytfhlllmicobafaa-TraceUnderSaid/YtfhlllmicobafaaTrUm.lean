/- TrUm: texts for the statements of this seat: contracts of functions, walks, plain laws. Conditions: none. -/
import Derived.Deep.RegionLaw
import Derived.Deep.Cut
import Derived.Deep.CutRange
import Derived.Deep.CutBlock
import Derived.Deep.DeepCutAuto
import Derived.Test.YtfhlllmicobafaaTrSort
import Derived.Test.YtfhlllmicobafaaTrCtx
import Derived.Test.YtfhlllmicobafaaTrPm
import Derived.Test.YtfhlllmicobafaaTrRf
import Derived.Test.YtfhlllmicobafaaGeAll
set_option linter.all false
/- DeleteFunc of runs. -/
namespace Go.Proofs.Ytfhlllmicobafaa
open Go.RowKit Go.Shelf Go.Sort
theorem under40 {w : World} {Bx : Nat} {run : Int} (n : Int) (h : w.cell? ⟨Bx, 5, none⟩ = some (.int .i64 run)) : Calls Try.prog 40 #[.int .i64 n, .pointer (some ⟨Bx, 0, none⟩)] w fun e w' => e = .returned (.bool (n == run)) ∧ w = w' := by
  go_enter Try.func40, Try.ntmps40
  go_wp2
  go_ret
  exact ⟨rfl, rfl⟩
theorem delfn39_c {w : World} {base g n cap Bx : Nat} {run : Int} {xs : List Int} (hown : w.ownsRow base 3 1 (.slice (some ⟨g, 0, none⟩) n cap) n (xs.map (Value.int .i64))) (hn : xs.length = n) (hl : n ≤ 1000000) (hx : w.cell? ⟨Bx, 5, none⟩ = some (.int .i64 run)) (hne : Bx ≠ g) (hb : Bx < w.heap.size) {ys : List Int} {m : Nat} (hy : ys = xs.filter (fun r => r != run)) (hm : ys.length = m) :
    Calls Try.prog 39 #[.slice (some ⟨g, 0, none⟩) n cap, .func (.func 40) #[] #[.pointer (some ⟨Bx, 0, none⟩)]] w fun e w' => e = .returned (.slice (some ⟨g, 0, none⟩) m cap) ∧ w'.ownsRow base 3 1 (.slice (some ⟨g, 0, none⟩) m cap) m (ys.map (Value.int .i64)) ∧ Kept (fun b => b = g) w w' := by
  subst hn
  rcases hown.2 with ⟨q, -⟩ | ⟨g', cap', cur, q, hg, hh, h1, h2, h3, h4⟩
  · cases q
  · injection q with q q2 q3
    injection q with q
    injection q with q
    subst q q3
    rw [Nat.mul_one] at h4
    have key : ∀ W, Kept (fun b => b = g) w W → ∀ x : Int, FnGives Try.prog 40 #[.pointer (some ⟨Bx, 0, none⟩)] #[Value.int .i64 x] (.bool (x == run)) W := fun W K x => by
      have hc : W.cell? ⟨Bx, 5, none⟩ = some (.int .i64 run) := (K.cell (a := ⟨Bx, 5, none⟩) hb hne).trans hx
      refine (under40 x hc).mono fun e w' q => ⟨q.1, 0, ?_⟩
      rw [← q.2]; rfl
    refine (Try.slices_DeleteFunc (Value.int .i64) (fun _ => rfl) (fun x => x == run) 40 #[.pointer (some ⟨Bx, 0, none⟩)] (enters_of Try.func40 (by kernel_rfl) rfl) 0 (fun _ => by kernel_rfl) g 0 cap xs.toArray w
      (fun W x hB => key W ⟨hB.os, hB.tape, hB.output, hB.size, fun k hk _ => hB.block k hk⟩ x)
      (fun nn os dk x hd => key _ ((Kept.of_grown (grownBy_sortedI (w := w) (g := g) (n := nn) (os := os) dk)).mono (fun i _ h => (Option.some.inj h).symm)) x)
      (holds_of_blockI hh h4) (by simp; omega) (by simpa using h1)).mono ?_
    rintro r w' ⟨rfl, q, rfl⟩
    have hys : (xs.toArray.toList.filter fun x => !(x == run)) = ys := by rw [hy]; rfl
    rw [hys, hm]
    have hml : m ≤ xs.length := by rw [← hm, hy]; exact List.length_filter_le _ _
    have hll : (ys ++ List.replicate (xs.toArray.size - m) 0).length = xs.length := by rw [List.length_append, List.length_replicate, hm]; simp; omega
    have ho := ownsRow_sortedI (w := w) (base := base) (n := q) (e := 3) (os := #[]) hll hg hh h1 h2 h3
    have hk := grownBy_sortedI (w := w) (g := g) (n := q) (os := #[]) (ys ++ List.replicate (xs.toArray.size - m) 0).toArray
    rw [grow_empty] at ho hk
    refine ⟨rfl, ?_, (Kept.of_grown hk).mono (fun i _ h => (Option.some.inj h).symm)⟩
    have := ownsRow_first ho hml
    rw [← List.map_take, List.take_left' hm] at this
    exact this
end Go.Proofs.Ytfhlllmicobafaa
/- The lists of TraceUnder in memory. -/
namespace Go.Proofs.Ytfhlllmicobafaa
open Go.RowKit
open Tr (Ev ofB)
structure USt (w1 wk : World) (vu vj : Value) (Bn Bm : Nat) (U J NW M : List Int) : Prop where
  u : wk.ownsRow w1.heap.size 3 1 vu U.length (U.map (Value.int .i64))
  j : wk.ownsRow w1.heap.size 3 1 vj J.length (J.map (Value.int .i64))
  n : NumsAt wk Bn NW
  m : NumsAt wk Bm M
  uj : ∀ b, vu.ownBlock = some b → ¬ vj.ownBlock = some b
  un : ∀ b, vu.ownBlock = some b → b ≠ Bn ∧ b ≠ Bm
  jn : ∀ b, vj.ownBlock = some b → b ≠ Bn ∧ b ≠ Bm
  nm : Bn ≠ Bm
  bn : w1.heap.size ≤ Bn ∧ w1.heap.size ≤ Bm
  kept : Kept (fun _ => False) w1 wk
variable {w1 wk w2 : World} {vu vj : Value} {Bn Bm : Nat} {U J NW M : List Int}
theorem USt.move (h : USt w1 wk vu vj Bn Bm U J NW M) (K : Kept (fun _ => False) wk w2) : USt w1 w2 vu vj Bn Bm U J NW M :=
  ⟨ownsRow_kept h.u K (fun _ _ _ h => h), ownsRow_kept h.j K (fun _ _ _ h => h), RowAt.same h.n K, RowAt.same h.m K, h.uj, h.un, h.jn, h.nm, h.bn, h.kept.trans K (fun _ _ h => h)⟩
theorem USt.newU {v' : Value} {U' : List Int} (h : USt w1 wk vu vj Bn Bm U J NW M) (own : w2.ownsRow w1.heap.size 3 1 v' U'.length (U'.map (Value.int .i64))) (K : Kept (fun b => vu.ownBlock = some b) wk w2) (hor : ∀ b, v'.ownBlock = some b → vu.ownBlock = some b ∨ wk.heap.size ≤ b) : USt w1 w2 v' vj Bn Bm U' J NW M where
  u := own
  j := ownsRow_kept h.j K (fun b _ q r => h.uj b r q)
  n := RowAt.kept h.n K (fun q => (h.un _ q).1 rfl)
  m := RowAt.kept h.m K (fun q => (h.un _ q).2 rfl)
  uj := fun b q r => by
    rcases hor b q with q2 | q2
    · exact h.uj b q2 r
    · have := (ownsRow_block h.j r).2; omega
  un := fun b q => by
    rcases hor b q with q2 | q2
    · exact h.un b q2
    · have h1 := h.n.lt; have h2 := h.m.lt; exact ⟨by omega, by omega⟩
  jn := h.jn
  nm := h.nm
  bn := h.bn
  kept := h.kept.trans K fun b hb q => by have := (ownsRow_block h.u q).1; omega
theorem USt.newJ {v' : Value} {J' : List Int} (h : USt w1 wk vu vj Bn Bm U J NW M) (own : w2.ownsRow w1.heap.size 3 1 v' J'.length (J'.map (Value.int .i64))) (K : Kept (fun b => vj.ownBlock = some b) wk w2) (hor : ∀ b, v'.ownBlock = some b → vj.ownBlock = some b ∨ wk.heap.size ≤ b) : USt w1 w2 vu v' Bn Bm U J' NW M where
  u := ownsRow_kept h.u K (fun b _ q r => h.uj b q r)
  j := own
  n := RowAt.kept h.n K (fun q => (h.jn _ q).1 rfl)
  m := RowAt.kept h.m K (fun q => (h.jn _ q).2 rfl)
  uj := fun b q r => by
    rcases hor b r with q2 | q2
    · exact h.uj b q q2
    · have := (ownsRow_block h.u q).2; omega
  un := h.un
  jn := fun b q => by
    rcases hor b q with q2 | q2
    · exact h.jn b q2
    · have h1 := h.n.lt; have h2 := h.m.lt; exact ⟨by omega, by omega⟩
  nm := h.nm
  bn := h.bn
  kept := h.kept.trans K fun b hb q => by have := (ownsRow_block h.j q).1; omega
theorem USt.setN (h : USt w1 wk vu vj Bn Bm U J NW M) {k : Nat} (hk : k < NW.length) (x : Int) : USt w1 (wk.setCell ⟨Bn, k, none⟩ (.int .i64 x)) vu vj Bn Bm U J (NW.set k x) M := by
  have K : Kept (fun b => b = Bn) wk (wk.setCell ⟨Bn, k, none⟩ (.int .i64 x)) := (Kept.refl _ _).setCell _ _ (fun _ => rfl)
  exact ⟨ownsRow_kept h.u K (fun b _ q r => (h.un b q).1 r), ownsRow_kept h.j K (fun b _ q r => (h.jn b q).1 r), h.n.set hk x, RowAt.kept h.m K (fun q => h.nm q.symm), h.uj, h.un, h.jn, h.nm, h.bn, h.kept.trans K fun b hb (q : b = Bn) => by have := h.bn.1; omega⟩
theorem USt.setM (h : USt w1 wk vu vj Bn Bm U J NW M) {k : Nat} (hk : k < M.length) (x : Int) : USt w1 (wk.setCell ⟨Bm, k, none⟩ (.int .i64 x)) vu vj Bn Bm U J NW (M.set k x) := by
  have K : Kept (fun b => b = Bm) wk (wk.setCell ⟨Bm, k, none⟩ (.int .i64 x)) := (Kept.refl _ _).setCell _ _ (fun _ => rfl)
  exact ⟨ownsRow_kept h.u K (fun b _ q r => (h.un b q).2 r), ownsRow_kept h.j K (fun b _ q r => (h.jn b q).2 r), RowAt.kept h.n K (fun q => h.nm q), h.m.set hk x, h.uj, h.un, h.jn, h.nm, h.bn, h.kept.trans K fun b hb (q : b = Bm) => by have := h.bn.2; omega⟩
theorem USt.ints (h : USt w1 wk vu vj Bn Bm U J NW M) : Ints wk vu U := IntsK.of_own h.u
theorem USt.jints (h : USt w1 wk vu vj Bn Bm U J NW M) : Ints wk vj J := IntsK.of_own h.j
theorem own_val {w : World} {base e n : Nat} {v : Value} {xs : List Value} (h : w.ownsRow base e 1 v n xs) (h0 : 0 < n) : ∃ g c, v = .slice (some ⟨g, 0, none⟩) n c ∧ n ≤ c ∧ w.heap.size > g := by
  rcases h.2 with ⟨-, q⟩ | ⟨g, cap, cur, q, h1, h2, h3, -⟩
  · omega
  · exact ⟨g, cap, q, h3, (Array.getElem?_eq_some_iff.1 h2).1⟩
theorem own_val0 {w : World} {base e n : Nat} {v : Value} {xs : List Value} (h : w.ownsRow base e 1 v n xs) : ∃ p c, v = .slice p n c := by
  rcases h.2 with ⟨q, h0⟩ | ⟨g, cap, cur, q, -⟩
  · exact ⟨none, 0, by rw [q, h0]⟩
  · exact ⟨_, cap, q⟩
/-- append of one number as a step of a region that draws. -/
theorem step_own {P : Program} {ops : Array Oper} {o : Oper} {a : Act} {K : Act → World → Prop} {Q : Exit → Act → World → Prop} {E0 : Prop} {t e : Nat} (hgd : o.guard = none) (s x : Operand)
    (ho : o.op = .call { callee := .builtin .append, args := #[s, x], argTypes := #[t, t] }) (E : ElemOk P t e 1 8) {W : World} (base : Nat) (v : Value) (ys : List Int) (b : Nat) (y : Int) (hs : a.eval s = v)
    (hx : a.eval x = .slice (some ⟨b, 0, none⟩) 1 1) (hown : W.ownsRow base e 1 v ys.length (ys.map (Value.int .i64))) (hc : W.cell? ⟨b, 0, none⟩ = some (.int .i64 y)) (hl : ys.length ≤ 1000000) (hbase : base ≤ W.heap.size)
    (h : ∀ g cap w', w'.ownsRow base e 1 (.slice (some ⟨g, 0, none⟩) (ys ++ [y]).length cap) (ys ++ [y]).length ((ys ++ [y]).map (Value.int .i64)) → Kept (fun b => v.ownBlock = some b) W w' → (∀ b, (Value.slice (some ⟨g, 0, none⟩) (ys ++ [y]).length cap).ownBlock = some b → v.ownBlock = some b ∨ W.heap.size ≤ b) → K (a.put o.dst (.slice (some ⟨g, 0, none⟩) (ys ++ [y]).length cap)) w') :
    if Region.wanted o (yielded ops a.tmps) = true then Oper.wp P o a W K Q else E0 := by
  have hw : Region.wanted o (yielded ops a.tmps) = true := by simp [Region.wanted, hgd]
  rw [if_pos hw]
  obtain ⟨i, z, hi, hz, hsz, hby, hzs⟩ := E.info
  obtain ⟨v', w', hr, hown', hg, hor⟩ := run_append_new (P := P) W base t o.type e i z 1 8 E.under hi hz hsz hby hzs E.pos v ys.length (ys.map (Value.int .i64)) hown ⟨b, 0, none⟩ 1 1 [.int .i64 y] rfl (fun j u hj => by
    rw [Addr.add_mid]
    have h0 : j = 0 := by have := (List.getElem?_eq_some_iff.1 hj).1; simpa using this
    subst h0
    simp at hj
    subst hj
    exact hc) (fun u hu => by simp at hu; subst hu; rfl) (by unfold maxLen; omega) (by omega) hbase (by omega)
  have hex : ∃ g cap, v' = .slice (some ⟨g, 0, none⟩) (ys.length + 1) cap := by
    rcases hown'.2 with ⟨-, h0⟩ | ⟨g, cap, cur, hv, -⟩
    · omega
    · exact ⟨g, cap, hv⟩
  obtain ⟨g, cap, rfl⟩ := hex
  have hlen : (ys ++ [y]).length = ys.length + 1 := by simp
  have hmap : (ys ++ [y]).map (Value.int .i64) = ys.map (Value.int .i64) ++ [.int .i64 y] := by simp
  have h2 := h g cap w'
  rw [hlen, hmap] at h2
  unfold Oper.wp execOp
  simp only [ho, resolve, invoke, builtin, Sem.run_bind, Sem.run_pure, Result.andThen_ok, List.map_toArray, List.map_cons, List.map_nil, hs, hx, hr]
  refine h2 hown' (Kept.of_grown hg) fun b' hb' => ?_
  rcases hor with hor | hor
  · left; rw [← hor]; exact hb'
  · right
    simp [Value.ownBlock] at hor hb'
    omega
theorem most_made {W : World} {v : Value} {t : List Ev} (h : Evs W v t) (hok : Tr.Ok 64 t) (hw : EvW t) (hl : t.length ≤ 200) {k : Int} (hk : -1 ≤ k ∧ k ≤ 63) :
    Calls Try.prog 17 #[v, .int .i64 k] W fun e w' => e = .returned (.tuple #[.int .i64 (Tr.mfold k t).2, .int .i64 0]) ∧ Kept (fun _ => False) W w' :=
  (callsIn_wide.1 (most_in 4 (Nat.le_refl _) h hw (by omega) k)).mono fun e w' q => by
    obtain ⟨q1, q2⟩ := q
    rw [wrong_zero hok hk, if_pos rfl, mf_eq] at q1
    exact ⟨q1, q2⟩
theorem run_made {W : World} {v : Value} {t : List Ev} (h : Evs W v t) (hok : Tr.Ok 64 t) (hw : EvW t) (hl : t.length ≤ 200) {k : Nat} (hk : k ≤ t.length) :
    Calls Try.prog 15 #[v, .int .i64 (k : Nat)] W fun e w' => ∃ u, e = .returned (.tuple #[u, .int .i64 0]) ∧ IRO3 W w' u ((Tr.und (t.take k)).map (·.run)) :=
  (running_c h hw (by omega) (k : Int)).mono fun e w' q => by
    obtain ⟨u, q1, q2⟩ := q
    have h0 : wrongE t (k : Int) 0 (t.length : Int) = 0 := wrong_zero hok (by omega)
    rw [h0] at q1 q2
    rw [if_pos rfl] at q2
    exact ⟨u, q1, by simpa [runs] using q2⟩
theorem run_range {W : World} {v : Value} {t : List Ev} (h : Evs W v t) (hok : Tr.Ok 64 t) (hw : EvW t) (hl : t.length ≤ 200) {k : Int} (hk : k < 0 ∨ t.length < k) :
    Calls Try.prog 15 #[v, .int .i64 k] W fun e w' => ∃ u, e = .returned (.tuple #[u, .int .i64 3]) ∧ Kept (fun _ => False) W w' :=
  (running_c h hw (by omega) k).mono fun e w' q => by
    obtain ⟨u, q1, q2⟩ := q
    rw [wrong_range hok hk] at q1
    exact ⟨u, q1, q2.2.2⟩
theorem list_step {l l' : List Int} {r : Nat} {x : Int} (hl : l.length = l'.length) (hr : r < l.length) (hx : l'[r]? = some x) : (l'.take r ++ l.drop r).set r x = l'.take (r + 1) ++ l.drop (r + 1) := by
  have h1 : (l'.take r).length = r := by rw [List.length_take]; omega
  rw [List.set_append_right _ _ (by omega), h1, Nat.sub_self, List.drop_eq_getElem_cons hr, List.set_cons_zero, List.take_add_one, hx, List.append_assoc]
  rfl
/-- The sum of the greatest numbers. -/
def sumM (t : List Ev) : Nat → Int
  | 0 => 0
  | k + 1 => sumM t k + (Tr.mfold (k : Int) t).2
theorem sumM_bd {t : List Ev} (hok : Tr.Ok 5 t) (hl : t.length ≤ 200) : ∀ k, 0 ≤ sumM t k ∧ sumM t k ≤ 201 * k
  | 0 => by simp [sumM]
  | k + 1 => by
    have h1 := sumM_bd hok hl k
    have h2 := Tr.most_le hok (k : Int)
    simp only [sumM]
    omega
theorem sumM5 {t : List Ev} (hok : Tr.Ok 5 t) (hs : ∀ e ∈ t, Tr.Small e) : (Tr.mfold (-1) t).2 ≤ sumM t 5 := by
  have := Tr.most_sum hok hs
  show _ ≤ 0 + (Tr.mfold 0 t).2 + (Tr.mfold 1 t).2 + (Tr.mfold 2 t).2 + (Tr.mfold 3 t).2 + (Tr.mfold 4 t).2
  omega
def urun (p : List Ev) : List Int := (Tr.und p).map (·.run)
theorem urun_launch {p : List Ev} {x : Ev} (k1 : x.kind = 1) : urun (p ++ [x]) = urun p ++ [x.run] := by
  unfold urun; rw [Tr.und_snoc]; unfold Tr.ustep; rw [if_pos k1, List.map_append]; rfl
theorem urun_end {p : List Ev} {x : Ev} (k2 : x.kind = 2 ∨ x.kind = 3) : urun (p ++ [x]) = (urun p).filter (fun r => r != x.run) := by
  unfold urun; rw [Tr.und_snoc]; unfold Tr.ustep; rw [if_neg (by omega), if_pos k2, List.filter_map]; rfl
theorem urun_other {p : List Ev} {x : Ev} (h1 : x.kind ≠ 1) (h2 : ¬ (x.kind = 2 ∨ x.kind = 3)) : urun (p ++ [x]) = urun p := by
  unfold urun; rw [Tr.und_other h1 h2]
end Go.Proofs.Ytfhlllmicobafaa
/- The walk of TraceUnder. -/
namespace Go.Proofs.Ytfhlllmicobafaa
open Go.RowKit
open Tr (Ev ofB)
theorem mk1 (W : World) : (Instr.makeSlice 25 (.int .i64 1) (.int .i64 1)).run Try.prog W = .ok (.slice (some ⟨W.heap.size, 0, none⟩) 1 1) (W.alloc (.cells #[.int .i64 0] 3)) :=
  make_p (t := 25) (e := 3) Try.underlying25 Try.info3 rfl (by decide) 1 (by omega) W
theorem mk5 (W : World) : (Instr.makeSlice 25 (.int .i64 5) (.int .i64 5)).run Try.prog W = .ok (.slice (some ⟨W.heap.size, 0, none⟩) 5 5) (W.alloc (.cells #[.int .i64 0, .int .i64 0, .int .i64 0, .int .i64 0, .int .i64 0] 3)) :=
  make_p (t := 25) (e := 3) Try.underlying25 Try.info3 rfl (by decide) 5 (by omega) W
theorem mk6 (W : World) : (Instr.makeSlice 25 (.int .i64 6) (.int .i64 6)).run Try.prog W = .ok (.slice (some ⟨W.heap.size, 0, none⟩) 6 6) (W.alloc (.cells #[.int .i64 0, .int .i64 0, .int .i64 0, .int .i64 0, .int .i64 0, .int .i64 0] 3)) :=
  make_p (t := 25) (e := 3) Try.underlying25 Try.info3 rfl (by decide) 6 (by omega) W
theorem own_new1 {w : World} {base : Nat} (hb : base ≤ w.heap.size) (x : Int) : (w.alloc (.cells #[.int .i64 x] 3)).ownsRow base 3 1 (.slice (some ⟨w.heap.size, 0, none⟩) 1 1) 1 [.int .i64 x] :=
  ⟨rfl, .inr ⟨w.heap.size, 1, #[.int .i64 x], rfl, hb, heap_alloc_new w _, Nat.le_refl _, by unfold maxLen; omega, rfl, rfl⟩⟩
theorem und_start {w1 w : World} {Bj Bn Bm : Nat} (K : Kept (fun _ => False) w1 w) (hj : w.ownsRow w1.heap.size 3 1 (.slice (some ⟨Bj, 0, none⟩) 1 1) 1 [.int .i64 0]) (hn : NumsAt w Bn [0, 0, 0, 0, 0]) (hm : NumsAt w Bm [0, 0, 0, 0, 0, 0]) (h1 : Bj ≠ Bn) (h2 : Bj ≠ Bm) (h3 : Bn ≠ Bm) (h4 : w1.heap.size ≤ Bn) (h5 : w1.heap.size ≤ Bm) :
    USt w1 w (.slice none 0 0) (.slice (some ⟨Bj, 0, none⟩) 1 1) Bn Bm (urun []) (Tr.jobsL []) (Tr.nowL []) (Tr.mostL []) where
  u := ⟨rfl, .inl ⟨rfl, rfl⟩⟩
  j := hj
  n := hn
  m := hm
  uj := fun b q => by cases q
  un := fun b q => by cases q
  jn := fun b q => by
    simp only [Value.ownBlock, Option.some.injEq] at q
    subst q
    exact ⟨h1, h2⟩
  nm := h3
  bn := ⟨h4, h5⟩
  kept := K
set_option maxRecDepth 100000 in
set_option maxHeartbeats 8000000 in
theorem under_w {w : World} {v : Value} {l : List Int} (h : IntsK .u32 w v l) (hs : ∃ p c, v = .slice p l.length c ∧ l.length ≤ c) (hl : l.length ≤ maxLen) (hu : Tr.U32 l) :
    Calls Try.prog 10 #[v] w (Tru w) := by
  have HM := Lib.hid (made_o h hs hl hu)
  obtain ⟨hok, hlen, hsm⟩ := Tr.made_ok hu
  generalize Tr.made l = t at HM hok hlen hsm
  have HOK := Lib.hid (hok.wide (b := 64) (by omega))
  have HOK5 := Lib.hid hok
  have HSM := Lib.hid hsm
  have HW : Hid (EvW t) := Lib.hid (small_w hsm)
  obtain ⟨N, hN⟩ : ∃ N : Nat, t.length = N := ⟨_, rfl⟩
  have HN := Lib.hid hN
  rw [hN] at hlen
  clear h hs hl hu hok hsm hN
  go_enter Try.func10, Try.ntmps10
  go_wp2_with (go_at_call 29; fail)
  refine HM.out.mono ?_
  rintro e w1 ⟨vt, rfl, ht⟩
  have HT1 := Lib.hid (ht.rows evC_len)
  have HK1 := Lib.hid ht.2.2
  clear ht HM l
  obtain ⟨at_, ct, hvt⟩ := HT1.out.len
  rw [HN.out] at hvt
  subst hvt
  have m1 := mk1
  have m5 := mk5
  have m6 := mk6
  go_upto_region 4 with fail
  have HJ0 := Lib.hid (own_new1 (Nat.le_refl w1.heap.size) 0)
  have HKJ : Hid (Kept (fun _ => False) w1 (w1.alloc (.cells #[.int .i64 0] 3))) := Lib.hid ((Kept.refl _ _).alloc _)
  have HWJ : Hid ((w1.alloc (.cells #[.int .i64 0] 3)).heap.size = w1.heap.size + 1) := Lib.hid (by simp)
  generalize w1.alloc (.cells #[.int .i64 0] 3) = w2 at HJ0 HKJ HWJ ⊢
  go_cut [6, 7] from 29 to 30 (fun s6 s7 wx => ∃ Bn Bm, s6 = .slice (some ⟨Bn, 0, none⟩) 5 5 ∧ s7 = .slice (some ⟨Bm, 0, none⟩) 6 6 ∧ USt w1 wx (.slice none 0 0) (.slice (some ⟨w1.heap.size, 0, none⟩) 1 1) Bn Bm (urun []) (Tr.jobsL []) (Tr.nowL []) (Tr.mostL []))
  case first =>
    have HA : Hid (USt w1 (((w2.alloc (.cells #[.int .i64 0, .int .i64 0, .int .i64 0, .int .i64 0, .int .i64 0] 3)).alloc (.cells #[.int .i64 0, .int .i64 0, .int .i64 0, .int .i64 0, .int .i64 0, .int .i64 0] 3)).drew) (.slice none 0 0) (.slice (some ⟨w1.heap.size, 0, none⟩) 1 1) w2.heap.size (w2.heap.size + 1) (urun []) (Tr.jobsL []) (Tr.nowL []) (Tr.mostL [])) := Lib.hid (by
      have K : Kept (fun _ => False) w2 (((w2.alloc (.cells #[.int .i64 0, .int .i64 0, .int .i64 0, .int .i64 0, .int .i64 0] 3)).alloc (.cells #[.int .i64 0, .int .i64 0, .int .i64 0, .int .i64 0, .int .i64 0, .int .i64 0] 3)).drew) := (((Kept.refl _ _).alloc _).alloc _).drew
      have hw := HWJ.out
      refine und_start (HKJ.out.trans K (fun _ _ h => h)) (ownsRow_kept HJ0.out K (fun _ _ _ h => h)) ?_ ?_ (by omega) (by omega) (by omega) (by omega) (by omega)
      · exact RowAt.same (RowAt.new w2 3 #[.int .i64 0, .int .i64 0, .int .i64 0, .int .i64 0, .int .i64 0]) ((Kept.refl _ _).alloc _).drew
      · have := RowAt.new (w2.alloc (.cells #[.int .i64 0, .int .i64 0, .int .i64 0, .int .i64 0, .int .i64 0] 3)) 3 #[.int .i64 0, .int .i64 0, .int .i64 0, .int .i64 0, .int .i64 0, .int .i64 0]
        rw [World.size_alloc] at this
        exact RowAt.same this (Kept.refl _ _).drew)
    have HB : Hid (USt w1 (((w2.alloc (.cells #[.int .i64 0, .int .i64 0, .int .i64 0, .int .i64 0, .int .i64 0, .int .i64 0] 3)).alloc (.cells #[.int .i64 0, .int .i64 0, .int .i64 0, .int .i64 0, .int .i64 0] 3)).drew) (.slice none 0 0) (.slice (some ⟨w1.heap.size, 0, none⟩) 1 1) (w2.heap.size + 1) w2.heap.size (urun []) (Tr.jobsL []) (Tr.nowL []) (Tr.mostL [])) := Lib.hid (by
      have K : Kept (fun _ => False) w2 (((w2.alloc (.cells #[.int .i64 0, .int .i64 0, .int .i64 0, .int .i64 0, .int .i64 0, .int .i64 0] 3)).alloc (.cells #[.int .i64 0, .int .i64 0, .int .i64 0, .int .i64 0, .int .i64 0] 3)).drew) := (((Kept.refl _ _).alloc _).alloc _).drew
      have hw := HWJ.out
      refine und_start (HKJ.out.trans K (fun _ _ h => h)) (ownsRow_kept HJ0.out K (fun _ _ _ h => h)) ?_ ?_ (by omega) (by omega) (by omega) (by omega) (by omega)
      · have := RowAt.new (w2.alloc (.cells #[.int .i64 0, .int .i64 0, .int .i64 0, .int .i64 0, .int .i64 0, .int .i64 0] 3)) 3 #[.int .i64 0, .int .i64 0, .int .i64 0, .int .i64 0, .int .i64 0]
        rw [World.size_alloc] at this
        exact RowAt.same this (Kept.refl _ _).drew
      · exact RowAt.same (RowAt.new w2 3 #[.int .i64 0, .int .i64 0, .int .i64 0, .int .i64 0, .int .i64 0, .int .i64 0]) ((Kept.refl _ _).alloc _).drew)
    go_region
    all_goals
      go_wp2_with fail
      go_meet
      first | exact ⟨_, _, rfl, rfl, HA.out⟩ | exact ⟨_, _, rfl, rfl, HB.out⟩
  case rest =>
    obtain ⟨Bn, Bm, rfl, rfl, hst⟩ := hcut
    have HST := Lib.hid hst
    clear hst m1 m5 m6 HJ0 HKJ HWJ
    go_wp2
    go_loopw [4, 5, 33] (fun su sj i wr => ∃ (k : Nat) (vu vj : Value), vu = su ∧ vj = sj ∧ k ≤ N ∧ i = .int .i64 k ∧ USt w1 wr vu vj Bn Bm (urun (t.take k)) (Tr.jobsL (t.take k)) (Tr.nowL (t.take k)) (Tr.mostL (t.take k))) (fun _ _ i _ => match i with | .int _ x => (N - x).toNat | _ => 0)
    case atStart => exact ⟨0, _, _, rfl, rfl, Nat.zero_le _, rfl, HST.out⟩
    case round =>
      obtain ⟨k, vu, vj, rfl, rfl, hk, rfl, hst⟩ := hrel
      have HS := Lib.hid hst
      have HTR := Lib.hid (HT1.out.same hst.kept)
      clear hst
      by_cases hlk : k < N
      · have hkl : k < t.length := by have := HN.out; omega
        have HX := Lib.hid (get_of hkl)
        have hsx := HSM.out _ (List.getElem_mem hkl)
        have hki := Tr.chk_ok (HOK5.out.each (List.getElem_mem hkl))
        have hpx := HOK5.out k _ HX.out
        unfold Tr.Small at hsx
        obtain ⟨b0, off, cap', hv, hcp, hb0, hrows⟩ := HTR.out.pos (by have := HN.out; omega)
        rw [HN.out] at hv
        injection hv with e1 e2 e3
        subst e1 e3
        have hx8 := hrows.ev HX.out
        generalize t[k] = x at HX hx8 hsx hki hpx
        have HTK : Hid (t.take (k + 1) = t.take k ++ [x]) := Lib.hid (Tr.take_snoc' HX.out)
        have HPX := Lib.hid hpx
        have HOKK : Hid (Tr.Ok 5 (t.take k)) := Lib.hid (HOK5.out.take k)
        have HOKS : Hid (Tr.Ok 5 (t.take k ++ [x])) := Lib.hid (by rw [← HTK.out]; exact HOK5.out.take _)
        obtain ⟨a0, a1, a2, a3, a4, a5, a6, a7⟩ := hx8
        have i1 : (0 : Int) ≤ (k : Int) := by omega
        have i2 : (k : Int) < (N : Int) := by omega
        obtain ⟨o, ho⟩ : ∃ o : Array Value, o = #[.int .i64 x.kind, .int .i64 x.t, .int .i64 x.job, .int .i64 x.due, .int .i64 x.att, .int .i64 x.run, .int .i64 x.why, .int .i64 x.whn] := ⟨_, rfl⟩
        have HKB : Hid (Kept (fun _ => False) wr (wr.alloc (.cells o 35))) := Lib.hid ((Kept.refl _ _).alloc _)
        have HRB : Hid (RowAt (wr.alloc (.cells o 35)) wr.heap.size o.toList) := Lib.hid (RowAt.new wr 35 o)
        have HSB := Lib.hid (HS.out.move HKB.out)
        have HUO : Hid (∀ b, vu.ownBlock = some b → b < wr.heap.size) := Lib.hid fun b q => (ownsRow_block HS.out.u q).2
        have HJO : Hid (∀ b, vj.ownBlock = some b → b < wr.heap.size) := Lib.hid fun b q => (ownsRow_block HS.out.j q).2
        subst ho
        clear hrows e2 HTR HKB HS hpx
        go_upto_block 2 with fail
        generalize wr.alloc (.cells #[.int .i64 x.kind, .int .i64 x.t, .int .i64 x.job, .int .i64 x.due, .int .i64 x.att, .int .i64 x.run, .int .i64 x.why, .int .i64 x.whn] 35) = wx at HRB HSB ⊢
        generalize wr.heap.size = Bx at HRB HUO HJO ⊢
        go_cut [4, 5] from 38 to 74 (fun s4 s5 wz => ∃ vu2 vj2, vu2 = s4 ∧ vj2 = s5 ∧ USt w1 wz vu2 vj2 Bn Bm (urun (t.take (k + 1))) (Tr.jobsL (t.take (k + 1))) (Tr.nowL (t.take (k + 1))) (Tr.mostL (t.take k)))
        case first =>
          have hrb := HRB.out
          have z0 := hrb.get (j := 0) rfl
          have z2 := hrb.get (j := 2) rfl
          have z5 := hrb.get (j := 5) rfl
          have zl := hrb.lt
          have HX0 : Hid (∀ W, Kept (fun _ => False) wx W → RowAt W Bx [.int .i64 x.kind, .int .i64 x.t, .int .i64 x.job, .int .i64 x.due, .int .i64 x.att, .int .i64 x.run, .int .i64 x.why, .int .i64 x.whn]) := Lib.hid fun W K => RowAt.same HRB.out K
          have HS0 : Hid (∀ W, Kept (fun _ => False) wx W → USt w1 W vu vj Bn Bm (urun (t.take k)) (Tr.jobsL (t.take k)) (Tr.nowL (t.take k)) (Tr.mostL (t.take k))) := Lib.hid fun W K => HSB.out.move K
          have hul : (urun (t.take k)).length ≤ 200 := by
            have h1 := und_len (t.take k)
            rw [List.length_take] at h1
            unfold urun
            rw [List.length_map]
            omega
          have hjl : (Tr.jobsL (t.take k)).length ≤ 201 := by
            have h1 := (Tr.jobs_ok _ HOKK.out).1
            have h2 := (Tr.last_nonneg _ HOKK.out).2.1
            rw [List.length_take] at h2
            omega
          have HUL : Hid ((urun (t.take k)).length ≤ 1000000) := Lib.hid (by omega)
          have HJL : Hid ((Tr.jobsL (t.take k)).length ≤ 1000000) := Lib.hid (by omega)
          clear hrb
          have i3 : (0 : Int) ≤ x.job := by omega
          have i4 : x.job < 5 := by omega
          by_cases k1 : x.kind = 1
          · have b1 : (x.kind == 1) = true := by simpa using k1
            have HUE : Hid (urun (t.take (k + 1)) = urun (t.take k) ++ [x.run]) := Lib.hid (by rw [HTK.out, urun_launch k1])
            have HJE : Hid (Tr.jobsL (t.take (k + 1)) = Tr.jobsL (t.take k) ++ [x.job]) := Lib.hid (by rw [HTK.out, Tr.jobs_snoc, if_pos k1])
            have HNE : Hid (Tr.nowL (t.take (k + 1)) = (Tr.nowL (t.take k)).set x.job.toNat ((Tr.cnt x.job (Tr.und (t.take k)) : Int) + 1)) := Lib.hid (by rw [HTK.out, Tr.now_launch k1 (by omega)])
            have hcn : Tr.cnt x.job (Tr.und (t.take k)) ≤ 200 := by
              have h1 : Tr.cnt x.job (Tr.und (t.take k)) ≤ (Tr.und (t.take k)).length := List.countP_le_length
              unfold urun at hul
              rw [List.length_map] at hul
              omega
            clear k1
            go_upto_region 10 with fail
            go_cut [4, 5] from 42 to 51 (fun s4 s5 wz => USt w1 wz s4 s5 Bn Bm (urun (t.take k) ++ [x.run]) (Tr.jobsL (t.take k) ++ [x.job]) (Tr.nowL (t.take k)) (Tr.mostL (t.take k)) ∧ RowAt wz Bx [.int .i64 x.kind, .int .i64 x.t, .int .i64 x.job, .int .i64 x.due, .int .i64 x.att, .int .i64 x.run, .int .i64 x.why, .int .i64 x.whn])
            case first =>
              go_region_law (first
                | (refine step_own rfl (.tmp 42) (.tmp 45) rfl el25 w1.heap.size vu (urun (t.take k)) _ x.run rfl rfl (HS0.out _ (by repeat (first | exact Kept.refl _ _ | refine Kept.alloc ?_ _ | refine Kept.drew ?_))).u (by first | (simp; done) | (go_simp; done)) HUL.out (HS0.out _ (by repeat (first | exact Kept.refl _ _ | refine Kept.alloc ?_ _ | refine Kept.drew ?_))).kept.size ?_; intro gu cu wu ou ku oru; have HS1 := Lib.hid (fun W (K : Kept (fun _ => False) wu W) => ((HS0.out _ (by repeat (first | exact Kept.refl _ _ | refine Kept.alloc ?_ _ | refine Kept.drew ?_))).newU ou ku oru).move K); have hx1 := RowAt.kept (HX0.out _ (by repeat (first | exact Kept.refl _ _ | refine Kept.alloc ?_ _ | refine Kept.drew ?_))) ku (fun q => Nat.lt_irrefl _ (HUO.out _ q)); have zu2 := hx1.get (j := 2) rfl; have zu5 := hx1.get (j := 5) rfl; have zul := hx1.lt; have HX1 := Lib.hid (fun W (K : Kept (fun _ => False) wu W) => RowAt.same hx1 K); have hku := Lib.hid ku; clear hx1 ou ku oru)
                | (refine step_own rfl (.tmp 47) (.tmp 50) rfl el25 w1.heap.size vj (Tr.jobsL (t.take k)) _ x.job rfl rfl (HS1.out _ (by repeat (first | exact Kept.refl _ _ | refine Kept.alloc ?_ _ | refine Kept.drew ?_))).j (by first | (simp; done) | (go_simp; done) | exact (hku.out.cell (a := ⟨_, 0, none⟩) (by first | (simp; done) | (simp; omega)) (fun q => absurd (HUO.out _ q) (by first | (simp; done) | (simp; omega)))).trans (by first | (simp; done) | (go_simp; done))) HJL.out (HS1.out _ (by repeat (first | exact Kept.refl _ _ | refine Kept.alloc ?_ _ | refine Kept.drew ?_))).kept.size ?_; intro gj cj wj oj kj orj; have HS2 := Lib.hid ((HS1.out _ (by repeat (first | exact Kept.refl _ _ | refine Kept.alloc ?_ _ | refine Kept.drew ?_))).newJ oj kj orj); have HX2 := Lib.hid (RowAt.kept (HX1.out _ (by repeat (first | exact Kept.refl _ _ | refine Kept.alloc ?_ _ | refine Kept.drew ?_))) kj (fun q => Nat.lt_irrefl _ (HJO.out _ q))); clear oj kj orj))
              all_goals
                go_wp2_with fail
                go_meet
                refine ⟨?_, RowAt.same HX2.out (by repeat (first | exact Kept.refl _ _ | refine Kept.alloc ?_ _ | refine Kept.drew ?_))⟩
                have hfin := HS2.out
                simp only [List.length_append, List.length_cons, List.length_nil, Nat.zero_add] at hfin
                exact hfin.move (by repeat (first | exact Kept.refl _ _ | refine Kept.alloc ?_ _ | refine Kept.drew ?_))
            case rest =>
              obtain ⟨hs2, hr2⟩ := hcut
              have HS3 := Lib.hid hs2
              have y2 := hr2.get (j := 2) rfl
              have yl := hr2.lt
              have hnl : x.job.toNat < (Tr.nowL (t.take k)).length := by rw [Tr.nowL_len]; omega
              have n0 : wc.cell? ⟨Bn, x.job.toNat, none⟩ = some (.int .i64 (Tr.cnt x.job (Tr.und (t.take k)) : Nat)) := by
                refine RowAt.get hs2.n ?_
                rw [List.getElem?_map, Tr.nowL_get _ (by omega), Int.toNat_of_nonneg i3]
                rfl
              have nf := hs2.n.fz x.job.toNat
              have nl := hs2.n.lt
              have HFN := Lib.hid (hs2.setN hnl ((Tr.cnt x.job (Tr.und (t.take k)) : Int) + 1))
              have hsm2 : IntKind.i64.wrap ((Tr.cnt x.job (Tr.und (t.take k)) : Int) + 1) = (Tr.cnt x.job (Tr.und (t.take k)) : Int) + 1 := IntWalk.i64_in _ (by omega)
              have hwm : wrap64 ((Tr.cnt x.job (Tr.und (t.take k)) : Int) + 1) = (Tr.cnt x.job (Tr.und (t.take k)) : Int) + 1 := IntWalk.wrap64_in _ (by omega)
              rw [← HUE.out, ← HJE.out, ← HNE.out] at HFN
              clear hs2 hr2 z0 z2 z5 zl
              go_wp2_with fail
              go_meet
              exact ⟨_, _, rfl, rfl, HFN.out⟩
          · have b1 : (x.kind == 1) = false := by simpa using k1
            by_cases k2 : x.kind = 2 ∨ x.kind = 3
            · have k1' := k1
              have hje := Tr.jobs_end HOKK.out HPX.out k2
              obtain ⟨j1, j2, j3⟩ := hje
              have HUE : Hid (urun (t.take (k + 1)) = (urun (t.take k)).filter (fun r => r != x.run)) := Lib.hid (by rw [HTK.out, urun_end k2])
              have HJE : Hid (Tr.jobsL (t.take (k + 1)) = Tr.jobsL (t.take k)) := Lib.hid (by rw [HTK.out, Tr.jobs_snoc, if_neg k1])
              have HNE : Hid (Tr.nowL (t.take (k + 1)) = (Tr.nowL (t.take k)).set x.job.toNat ((Tr.cnt x.job (Tr.und (t.take k)) : Int) - 1)) := Lib.hid (by rw [HTK.out, Tr.now_end HOKK.out HPX.out k2 (by omega)])
              have hpos : 0 < (urun (t.take k)).length := by
                obtain ⟨e, -, he, -⟩ := Tr.und_end HOKK.out HPX.out k2
                unfold urun
                rw [List.length_map]
                exact List.length_pos_of_mem he
              have hcn : Tr.cnt x.job (Tr.und (t.take k)) ≤ 200 := by
                have h1 : Tr.cnt x.job (Tr.und (t.take k)) ≤ (Tr.und (t.take k)).length := List.countP_le_length
                unfold urun at hul
                rw [List.length_map] at hul
                omega
              obtain ⟨gu, cu, hvu, hcu, hgu⟩ := own_val HSB.out.u hpos
              obtain ⟨gj, cj, hvj, hcj, hgj⟩ := own_val HSB.out.j (by omega)
              subst hvu hvj
              have hgx : gu < Bx := HUO.out gu rfl
              have hDEL := Lib.hid (delfn39_c (Bx := Bx) (run := x.run) HSB.out.u rfl (by omega) z5 (by omega) zl HUE.out rfl)
              have HNL : Hid (x.job.toNat < (Tr.nowL (t.take k)).length) := Lib.hid (by rw [Tr.nowL_len]; omega)
              obtain ⟨nj, hnj⟩ : ∃ nj, (Tr.jobsL (t.take k)).length = nj := ⟨_, rfl⟩
              have HNJ := Lib.hid hnj
              rw [hnj] at j2 hcj ⊢
              have HJ3 := Lib.hid j3
              clear hnj j3 hpos hul hjl
              rcases k2 with k2 | k2
              · have b2 : (x.kind == 2) = true := by simpa using k2
                clear k1 k1' k2
                go_wp2_with (go_at_call 39; fail)
                refine hDEL.out.mono ?_
                rintro e wy ⟨rfl, ou, ku⟩
                have hs3 := HSB.out.newU (v' := .slice (some ⟨gu, 0, none⟩) (urun (t.take (k + 1))).length cu) ou (ku.mono fun b _ q => by rw [q]; rfl) (fun b q => .inl (by simpa [Value.ownBlock] using q))
                have hx3 := RowAt.kept HRB.out ku (fun q => by omega)
                have y5 := hx3.get (j := 5) rfl
                have yl := hx3.lt
                have jc : wy.cell? ⟨gj, x.run.toNat, none⟩ = some (.int .i64 x.job) := by
                  obtain ⟨b, o2, c2, q1, -, q3⟩ := hs3.jints.pos (by rw [HNJ.out]; omega)
                  injection q1 with q1 _ _
                  injection q1 with q1
                  injection q1 with q1 q4
                  subst q1 q4
                  have := q3 x.run.toNat x.job HJ3.out
                  rwa [Nat.zero_add] at this
                have n0 : wy.cell? ⟨Bn, x.job.toNat, none⟩ = some (.int .i64 (Tr.cnt x.job (Tr.und (t.take k)) : Nat)) := by
                  refine RowAt.get hs3.n ?_
                  rw [List.getElem?_map, Tr.nowL_get _ (by omega), Int.toNat_of_nonneg i3]
                  rfl
                have nf := hs3.n.fz x.job.toNat
                have nl := hs3.n.lt
                have HFN := Lib.hid (hs3.setN HNL.out ((Tr.cnt x.job (Tr.und (t.take k)) : Int) - 1))
                have hsm2 : IntKind.i64.wrap ((Tr.cnt x.job (Tr.und (t.take k)) : Int) - 1) = (Tr.cnt x.job (Tr.und (t.take k)) : Int) - 1 := IntWalk.i64_in _ (by omega)
                have hwm : wrap64 ((Tr.cnt x.job (Tr.und (t.take k)) : Int) - 1) = (Tr.cnt x.job (Tr.und (t.take k)) : Int) - 1 := IntWalk.wrap64_in _ (by omega)
                rw [← HJE.out, ← HNE.out] at HFN
                have r0 : (0 : Int) ≤ x.run := by omega
                have r1 : x.run < (nj : Int) := by omega
                clear hs3 hx3 ou ku z0 z2 z5 zl
                go_wp2_with fail
                go_meet
                have hfin := HFN.out
                rw [HJE.out, HNJ.out] at hfin
                rw [HJE.out]
                exact ⟨_, _, rfl, rfl, hfin⟩
              · have b2 : (x.kind == 2) = false := by simp [k2]
                have b3 : (x.kind == 3) = true := by simpa using k2
                clear k1 k1' k2
                go_wp2_with (go_at_call 39; fail)
                refine hDEL.out.mono ?_
                rintro e wy ⟨rfl, ou, ku⟩
                have hs3 := HSB.out.newU (v' := .slice (some ⟨gu, 0, none⟩) (urun (t.take (k + 1))).length cu) ou (ku.mono fun b _ q => by rw [q]; rfl) (fun b q => .inl (by simpa [Value.ownBlock] using q))
                have hx3 := RowAt.kept HRB.out ku (fun q => by omega)
                have y5 := hx3.get (j := 5) rfl
                have yl := hx3.lt
                have jc : wy.cell? ⟨gj, x.run.toNat, none⟩ = some (.int .i64 x.job) := by
                  obtain ⟨b, o2, c2, q1, -, q3⟩ := hs3.jints.pos (by rw [HNJ.out]; omega)
                  injection q1 with q1 _ _
                  injection q1 with q1
                  injection q1 with q1 q4
                  subst q1 q4
                  have := q3 x.run.toNat x.job HJ3.out
                  rwa [Nat.zero_add] at this
                have n0 : wy.cell? ⟨Bn, x.job.toNat, none⟩ = some (.int .i64 (Tr.cnt x.job (Tr.und (t.take k)) : Nat)) := by
                  refine RowAt.get hs3.n ?_
                  rw [List.getElem?_map, Tr.nowL_get _ (by omega), Int.toNat_of_nonneg i3]
                  rfl
                have nf := hs3.n.fz x.job.toNat
                have nl := hs3.n.lt
                have HFN := Lib.hid (hs3.setN HNL.out ((Tr.cnt x.job (Tr.und (t.take k)) : Int) - 1))
                have hsm2 : IntKind.i64.wrap ((Tr.cnt x.job (Tr.und (t.take k)) : Int) - 1) = (Tr.cnt x.job (Tr.und (t.take k)) : Int) - 1 := IntWalk.i64_in _ (by omega)
                have hwm : wrap64 ((Tr.cnt x.job (Tr.und (t.take k)) : Int) - 1) = (Tr.cnt x.job (Tr.und (t.take k)) : Int) - 1 := IntWalk.wrap64_in _ (by omega)
                rw [← HJE.out, ← HNE.out] at HFN
                have r0 : (0 : Int) ≤ x.run := by omega
                have r1 : x.run < (nj : Int) := by omega
                clear hs3 hx3 ou ku z0 z2 z5 zl
                go_wp2_with fail
                go_meet
                have hfin := HFN.out
                rw [HJE.out, HNJ.out] at hfin
                rw [HJE.out]
                exact ⟨_, _, rfl, rfl, hfin⟩
            · have b2 : (x.kind == 2) = false := beq_eq_false_iff_ne.2 (by omega)
              have b3 : (x.kind == 3) = false := beq_eq_false_iff_ne.2 (by omega)
              have HFN : Hid (USt w1 wx vu vj Bn Bm (urun (t.take (k + 1))) (Tr.jobsL (t.take (k + 1))) (Tr.nowL (t.take (k + 1))) (Tr.mostL (t.take k))) := Lib.hid (by
                rw [HTK.out, urun_other k1 k2, Tr.jobs_snoc, if_neg k1, Tr.now_other k1 k2]
                exact HSB.out)
              clear k1 k2
              go_wp2_with fail
              go_meet
              exact ⟨_, _, rfl, rfl, HFN.out⟩
        case rest =>
          obtain ⟨vu2, vj2, rfl, rfl, hc2⟩ := hcut
          have HC := Lib.hid hc2
          clear hc2 HSB HRB HUO HJO a0 a1 a2 a3 a4 a5 a6 a7 HST hki
          obtain ⟨pu, cu, hvu⟩ := own_val0 HC.out.u
          obtain ⟨nu, hnu⟩ : ∃ nu, (urun (t.take (k + 1))).length = nu := ⟨_, rfl⟩
          have HNU := Lib.hid hnu
          have hnul : nu ≤ 200 := by
            rw [← hnu]
            unfold urun
            rw [List.length_map]
            have h1 := und_len (t.take (k + 1))
            rw [List.length_take] at h1
            omega
          rw [hnu] at hvu
          subst hvu
          clear hnu
          have HM0 : Hid (USt w1 wc (.slice pu nu cu) vj2 Bn Bm (urun (t.take (k + 1))) (Tr.jobsL (t.take (k + 1))) (Tr.nowL (t.take (k + 1))) ((Tr.mostL (t.take (k + 1))).take 0 ++ (Tr.mostL (t.take k)).drop 0)) := Lib.hid HC.out
          clear HC
          go_wp2
          go_loopw [77] (fun q wr => ∃ r : Nat, r ≤ 5 ∧ q = .int .i64 r ∧ USt w1 wr (.slice pu nu cu) vj2 Bn Bm (urun (t.take (k + 1))) (Tr.jobsL (t.take (k + 1))) (Tr.nowL (t.take (k + 1))) ((Tr.mostL (t.take (k + 1))).take r ++ (Tr.mostL (t.take k)).drop r)) (fun q _ => match q with | .int _ x => (5 - x).toNat | _ => 0)
          case atStart => exact ⟨0, Nat.zero_le _, rfl, HM0.out⟩
          case round =>
            obtain ⟨r, hr, rfl, hst⟩ := hrel
            have HS := Lib.hid hst
            have n0f := hst.n
            have m0f := hst.m
            clear hst
            have hl6 : (Tr.mostL (t.take k)).length = (Tr.mostL (t.take (k + 1))).length := by rw [Tr.mostL_len, Tr.mostL_len]
            have hmk : ∀ i : Nat, r ≤ i → i < 6 → ((Tr.mostL (t.take (k + 1))).take r ++ (Tr.mostL (t.take k)).drop r)[i]? = some (Tr.mfold (Tr.mkey i) (t.take k)).2 := fun i h1 h2 => by
              have h3 : ((Tr.mostL (t.take (k + 1))).take r).length = r := by rw [List.length_take, Tr.mostL_len]; omega
              rw [List.getElem?_append_right (by omega), h3, List.getElem?_drop, show r + (i - r) = i by omega, Tr.mostL_get _ h2]
            have hml : ((Tr.mostL (t.take (k + 1))).take r ++ (Tr.mostL (t.take k)).drop r).length = 6 := by rw [List.length_append, List.length_take, List.length_drop, Tr.mostL_len, Tr.mostL_len]; omega
            by_cases hlr : r < 5
            · obtain ⟨cn, hcn⟩ : ∃ cn, Tr.cnt (r : Int) (Tr.und (t.take (k + 1))) = cn := ⟨_, rfl⟩
              obtain ⟨mo, hmo⟩ : ∃ mo, (Tr.mfold (Tr.mkey r) (t.take k)).2 = mo := ⟨_, rfl⟩
              have nc : wr.cell? ⟨Bn, r, none⟩ = some (.int .i64 (cn : Nat)) := by
                refine RowAt.get n0f ?_
                rw [List.getElem?_map, Tr.nowL_get _ hlr, hcn]; rfl
              have mc : wr.cell? ⟨Bm, r, none⟩ = some (.int .i64 mo) := by
                refine RowAt.get m0f ?_
                rw [List.getElem?_map, hmk r (Nat.le_refl _) (by omega), hmo]; rfl
              have mfz := m0f.fz r
              have ml := m0f.lt
              have nl := n0f.lt
              have HNXT : Hid (USt w1 (wr.setCell ⟨Bm, r, none⟩ (.int .i64 (max mo (cn : Int)))) (.slice pu nu cu) vj2 Bn Bm (urun (t.take (k + 1))) (Tr.jobsL (t.take (k + 1))) (Tr.nowL (t.take (k + 1))) ((Tr.mostL (t.take (k + 1))).take (r + 1) ++ (Tr.mostL (t.take k)).drop (r + 1))) := Lib.hid (by
                have h1 := HS.out.setM (k := r) (by omega) (max mo (cn : Int))
                have h2 := Tr.most_next HOKS.out hlr
                rw [← HTK.out, hmo, hcn] at h2
                rw [list_step hl6 (by rw [Tr.mostL_len]; omega) (by rw [Tr.mostL_get _ (by omega), h2])] at h1
                exact h1)
              have i5 : (0 : Int) ≤ (r : Int) := by omega
              have i6 : (r : Int) < 5 := by omega
              have i7 : (r : Int) < 6 := by omega
              clear hl6 hmk hml n0f m0f hcn hmo
              go_wp2
              go_roundw
              case rel => exact ⟨r + 1, by omega, by go_num, HNXT.out⟩
              case measure => first | (simp; done) | (simp; omega)
            · obtain rfl : r = 5 := by omega
              obtain ⟨mo, hmo⟩ : ∃ mo, (Tr.mfold (Tr.mkey 5) (t.take k)).2 = mo := ⟨_, rfl⟩
              have mc : wr.cell? ⟨Bm, 5, none⟩ = some (.int .i64 mo) := by
                refine RowAt.get m0f ?_
                rw [List.getElem?_map, hmk 5 (Nat.le_refl _) (by omega), hmo]; rfl
              have mfz := m0f.fz 5
              have ml := m0f.lt
              have HNXT : Hid (USt w1 (wr.setCell ⟨Bm, 5, none⟩ (.int .i64 (max mo (nu : Int)))) (.slice pu nu cu) vj2 Bn Bm (urun (t.take (k + 1))) (Tr.jobsL (t.take (k + 1))) (Tr.nowL (t.take (k + 1))) (Tr.mostL (t.take (k + 1)))) := Lib.hid (by
                have h1 := HS.out.setM (k := 5) (by omega) (max mo (nu : Int))
                have h2 := Tr.most_nextA HOKS.out
                have h3 : (Tr.und (t.take (k + 1))).length = nu := by have := HNU.out; unfold urun at this; rwa [List.length_map] at this
                rw [← HTK.out, hmo, h3] at h2
                rw [list_step hl6 (by rw [Tr.mostL_len]; omega) (by rw [Tr.mostL_get _ (by omega), h2])] at h1
                have q1 : (Tr.mostL (t.take (k + 1))).take (5 + 1) = Tr.mostL (t.take (k + 1)) := List.take_of_length_le (by rw [Tr.mostL_len]; omega)
                have q2 : (Tr.mostL (t.take k)).drop (5 + 1) = [] := List.drop_eq_nil_of_le (by rw [Tr.mostL_len]; omega)
                rw [q1, q2, List.append_nil] at h1
                exact h1)
              clear hl6 hmk hml n0f m0f hmo HS
              go_upto_region 22 with fail
              generalize wr.setCell ⟨Bm, 5, none⟩ (.int .i64 (max mo (nu : Int))) = wd at HNXT ⊢
              have hRN : Calls Try.prog 15 #[.slice (some ⟨b0, off, none⟩) N ct, .int .i64 ((k : Int) + 1)] wd fun e w' => ∃ u, e = .returned (.tuple #[u, .int .i64 0]) ∧ IRO3 wd w' u (urun (t.take (k + 1))) := by
                have h1 := run_made (HT1.out.same HNXT.out.kept) HOK.out HW.out (by rw [HN.out]; omega) (k := k + 1) (by rw [HN.out]; omega)
                rw [show ((k + 1 : Nat) : Int) = (k : Int) + 1 from by push_cast; rfl] at h1
                exact h1
              have HR := Lib.hid hRN
              clear hRN mc mfz ml
              by_cases c1 : 0 < (k : Int) % 7
              · have d1 : decide (0 < (k : Int) % 7) = true := decide_eq_true c1
                by_cases c2 : (k : Int) < (N : Int) - 1
                · have d2 : decide ((k : Int) < (N : Int) - 1) = true := decide_eq_true c2
                  clear HR
                  go_wp2
                  go_roundw
                  case rel => exact ⟨k + 1, _, _, rfl, rfl, by omega, by go_num, HNXT.out⟩
                  case measure => first | (simp; done) | (simp; omega)
                · have d2 : decide ((k : Int) < (N : Int) - 1) = false := decide_eq_false c2
                  go_wp2_with (go_at_call 15; fail)
                  refine HR.out.mono ?_
                  rintro e we ⟨ur, rfl, hur⟩
                  have HSE := Lib.hid (HNXT.out.move hur.2.2)
                  have HEQ := Lib.hid (equal19_c hur.ints HSE.out.ints (by rw [HNU.out]; omega) (by rw [HNU.out]; omega))
                  rw [decide_eq_true rfl] at HEQ
                  clear hur HR HNXT
                  go_wp2_with (go_at_call 19; fail)
                  refine HEQ.out.mono ?_
                  rintro e wf ⟨rfl, q6, rfl⟩
                  have HSF := Lib.hid (HSE.out.move ((Kept.refl (fun _ => False) we).drewN q6))
                  clear HEQ HSE
                  go_wp2
                  go_roundw
                  case rel => exact ⟨k + 1, _, _, rfl, rfl, by omega, by go_num, HSF.out⟩
                  case measure => first | (simp; done) | (simp; omega)
              · have d1 : decide (0 < (k : Int) % 7) = false := decide_eq_false c1
                go_wp2_with (go_at_call 15; fail)
                refine HR.out.mono ?_
                rintro e we ⟨ur, rfl, hur⟩
                have HSE := Lib.hid (HNXT.out.move hur.2.2)
                have HEQ := Lib.hid (equal19_c hur.ints HSE.out.ints (by rw [HNU.out]; omega) (by rw [HNU.out]; omega))
                rw [decide_eq_true rfl] at HEQ
                clear hur HR HNXT
                go_wp2_with (go_at_call 19; fail)
                refine HEQ.out.mono ?_
                rintro e wf ⟨rfl, q6, rfl⟩
                have HSF := Lib.hid (HSE.out.move ((Kept.refl (fun _ => False) we).drewN q6))
                clear HEQ HSE
                go_wp2
                go_roundw
                case rel => exact ⟨k + 1, _, _, rfl, rfl, by omega, by go_num, HSF.out⟩
                case measure => first | (simp; done) | (simp; omega)
      · obtain rfl : k = N := by omega
        have hta : t.take k = t := List.take_of_length_le (by have := HN.out; omega)
        rw [hta] at HS
        have HSE := Lib.hid HS.out
        clear HS hta HST
        obtain ⟨wo, hwo⟩ : ∃ wo : World, wo = wr := ⟨_, rfl⟩
        subst hwo
        go_wp2
        go_loopw [14, 126] (fun s q wr => ∃ r : Nat, r ≤ 5 ∧ q = .int .i64 r ∧ s = .int .i64 (sumM t r) ∧ Kept (fun _ => False) wo wr) (fun _ q _ => match q with | .int _ x => (5 - x).toNat | _ => 0)
        case atStart => exact ⟨0, Nat.zero_le _, rfl, rfl, Kept.refl _ _⟩
        case round =>
          obtain ⟨r, hr, rfl, rfl, K⟩ := hrel
          have HSR := Lib.hid (HSE.out.move K)
          have HTR2 := Lib.hid (HTR.out.same K)
          have HK := Lib.hid K
          obtain ⟨S, hS⟩ : ∃ S, sumM t r = S := ⟨_, rfl⟩
          have hSb : 0 ≤ S ∧ S ≤ 201 * 5 := by
            have := sumM_bd HOK5.out (by rw [HN.out]; omega) r
            rw [hS] at this
            omega
          have HSS := Lib.hid hS
          rw [hS]
          clear K hS
          by_cases hlr : r < 5
          · obtain ⟨mj, hmj⟩ : ∃ mj, (Tr.mfold (r : Int) t).2 = mj := ⟨_, rfl⟩
            have hmb : 0 ≤ mj ∧ mj ≤ 201 := by have := Tr.most_le HOK5.out (r : Int); rw [hmj, HN.out] at this; omega
            have hC := most_made HTR2.out HOK.out HW.out (by rw [HN.out]; omega) (k := (r : Int)) (by omega)
            rw [hmj] at hC
            have HC := Lib.hid hC
            have HMJ := Lib.hid hmj
            clear hC hmj
            go_wp2_with (go_at_call 17; fail)
            refine HC.out.mono ?_
            rintro e w7 ⟨rfl, K7⟩
            have HK7 := Lib.hid (HK.out.trans K7 (fun _ _ h => h))
            have hm7 := (HSR.out.move K7).m
            have mc : w7.cell? ⟨Bm, r, none⟩ = some (.int .i64 mj) := by
              refine RowAt.get hm7 ?_
              rw [List.getElem?_map, Tr.mostL_get _ (by omega)]
              unfold Tr.mkey
              rw [if_neg (by omega), HMJ.out]
              rfl
            have ml := hm7.lt
            have i5 : (0 : Int) ≤ (r : Int) := by omega
            have i7 : (r : Int) < 6 := by omega
            have ws : wrap64 (S + mj) = S + mj := IntWalk.wrap64_in _ (by omega)
            clear hm7 K7 HC
            go_wp2
            go_roundw
            case rel => exact ⟨r + 1, by omega, by go_num, by rw [sumM, HSS.out, HMJ.out], HK7.out⟩
            case measure => first | (simp; done) | (simp; omega)
          · obtain rfl : r = 5 := by omega
            obtain ⟨ma, hma⟩ : ∃ ma, (Tr.mfold (-1) t).2 = ma := ⟨_, rfl⟩
            have hs5 := sumM5 HOK5.out HSM.out
            rw [hma, HSS.out] at hs5
            have hC := most_made HTR2.out HOK.out HW.out (by rw [HN.out]; omega) (k := -1) (by omega)
            rw [hma] at hC
            have HC := Lib.hid hC
            have HMA := Lib.hid hma
            have b5 : decide (ma ≤ S) = true := decide_eq_true hs5
            have HKW := Lib.hid (HK1.out.trans HSR.out.kept (fun _ _ h => h))
            clear hC hma hs5
            go_wp2_with (go_at_call 17; fail)
            refine HC.out.mono ?_
            rintro e w7 ⟨rfl, K7⟩
            have HK7 := Lib.hid (HKW.out.trans K7 (fun _ _ h => h))
            have HT7 := Lib.hid (HTR2.out.same K7)
            have HS7 := Lib.hid (HSR.out.move K7)
            clear K7 HC HKW HTR2 HSR
            have hC := most_made HT7.out HOK.out HW.out (by rw [HN.out]; omega) (k := 63) (by omega)
            rw [Tr.most_none HOK5.out HSM.out] at hC
            have HC := Lib.hid hC
            clear hC
            go_wp2_with (go_at_call 17; fail)
            refine HC.out.mono ?_
            rintro e w8 ⟨rfl, K8⟩
            have HK8 := Lib.hid (HK7.out.trans K8 (fun _ _ h => h))
            have HT8 := Lib.hid (HT7.out.same K8)
            have HS8 := Lib.hid (HS7.out.move K8)
            clear K8 HC HK7 HT7 HS7
            go_wp2_with (go_at_call 15; fail)
            refine (run_range HT8.out HOK.out HW.out (by rw [HN.out]; omega) (by rw [HN.out]; omega)).mono ?_
            rintro e w9 ⟨u9, rfl, K9⟩
            have HK9 := Lib.hid (HK8.out.trans K9 (fun _ _ h => h))
            have HT9 := Lib.hid (HT8.out.same K9)
            have HS9 := Lib.hid (HS8.out.move K9)
            clear K9 HK8 HT8 HS8
            go_wp2_with (go_at_call 15; fail)
            refine (run_range HT9.out HOK.out HW.out (by rw [HN.out]; omega) (by omega)).mono ?_
            rintro e w10 ⟨u10', rfl, K10⟩
            have HK10 := Lib.hid (HK9.out.trans K10 (fun _ _ h => h))
            have hm10 := (HS9.out.move K10).m
            have mc : w10.cell? ⟨Bm, 5, none⟩ = some (.int .i64 ma) := by
              refine RowAt.get hm10 ?_
              rw [List.getElem?_map, Tr.mostL_get _ (by omega)]
              unfold Tr.mkey
              rw [if_pos rfl, HMA.out]
              rfl
            have ml := hm10.lt
            clear K10 HK9 HT9 HS9 hm10
            go_wp2_with (go_at_call 14; fail)
            refine (works_c _).mono ?_
            rintro e w11 ⟨rfl, K11⟩
            have HK11 := Lib.hid (HK10.out.trans K11 (fun _ _ h => h))
            clear K11 mc ml
            go_wp2
            go_ret
            exact ⟨rfl, HK11.out⟩
end Go.Proofs.Ytfhlllmicobafaa

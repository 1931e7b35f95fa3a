/- OcRows: texts for the statements of this seat: contracts of functions, walks, plain laws. Conditions: none. -/
import Derived.Test.YthpbejdigllmbaaDoorOcSort
import Derived.Test.YthpbejdigllmbaaDoorGeRow
namespace Go.Proofs.YthpbejdigllmbaaDoor
open Go.RowKit Go.Sort

theorem drewN_kept (S : Nat → Prop) (w : World) (n : Nat) : Kept S w (w.drewN n) := (Kept.refl S w).drewN n
def CompactPost (g : Nat) (zs : List Int) (w : World) (e : Ending) (w' : World) : Prop :=
  ∃ v, e = .returned v ∧ Ints w' v (Lib.compact zs) ∧ Kept (fun b => b = g) w w'
theorem compact_len (zs : List Int) : (Lib.compact zs).length ≤ zs.length := by
  unfold Lib.compact Lib.compactUpTo
  rw [List.length_map]
  have := List.length_filter_le (Lib.keeps zs.toArray) (List.range zs.length)
  simpa using this
/-- Compact, of a row of the call's own that is not empty. -/
theorem compact_c {w : World} {base g n cap : Nat} (zs : List Int) (hl : zs.length = n) (hn : n ≤ 1000000000) (hp : 0 < n) (hown : w.ownsRow base 3 1 (.slice (some ⟨g, 0, none⟩) n cap) n (zs.map (Value.int .i64))) :
    Calls Tryd.prog 35 #[.slice (some ⟨g, 0, none⟩) n cap] w (CompactPost g zs w) := by
  rcases hown.2 with ⟨hv, h0⟩ | ⟨g', cap', cur, hv, hg, hh, h1, h2, h3, h4⟩
  · omega
  injection hv with e1 e2 e3
  injection e1 with e1
  injection e1 with e1
  subst e1 e3
  have hbl : g < w.heap.size := (Array.getElem?_eq_some_iff.1 hh).1
  have hfz : ∀ o, w.frozen? ⟨g, o, none⟩ = false := fun o => by simp [World.frozen?, hh]
  have hce : ∀ j, j < zs.length → w.cell? ⟨g, j, none⟩ = some (.int .i64 (zs.getD j 0)) := fun j hj => by
    rw [hown.cellAt j (by omega), List.getElem?_map, List.getElem?_eq_getElem hj, List.getD_eq_getElem?_getD, List.getElem?_eq_getElem hj]; rfl
  have hcl := compact_len zs
  refine (Tryd.slices_Compact_int_cells g 0 n cap zs w (by omega) (by omega) h1 (fun j hj => by rw [Nat.zero_add]; exact hce j hj) (fun j _ => hfz _)).mono ?_
  rintro e w' ⟨rfl, q, rfl⟩
  rw [← hl, List.take_length]
  refine ⟨_, rfl, ?_, ((Kept.refl (fun b => b = g) w).drewN q).setCells g _ (fun _ => rfl) 0⟩
  have hth : (w.drewN q).there g 0 ((Lib.compact zs ++ List.replicate (zs.length - (Lib.compact zs).length) (0 : Int)).map (Value.int .i64)).length := fun j hj => by
    have hj' : j < zs.length := by simp at hj; omega
    rw [Nat.zero_add]
    exact ⟨by show (w.cell? ⟨g, j, none⟩).isSome = true; rw [hce j hj']; rfl, hfz j⟩
  have hr := World.rangeAt_setCells_same (w.drewN q) g 0 _ hth
  refine .inr ⟨g, 0, cap, rfl, ?_, fun j x hx => hr j _ ?_⟩
  · exact Nat.lt_of_lt_of_le hbl (((Kept.refl (fun b => b = g) w).drewN q).setCells g _ (fun _ => rfl) 0).size
  · have hj := (List.getElem?_eq_some_iff.1 hx).1
    rw [List.getElem?_map, List.getElem?_append_left hj, hx]
    rfl
/-- append of a whole row. -/
theorem wpList_appRow {P : Program} {t e : Nat} (E : ElemOk P t e 1 8) {ops : Array Oper} {rest : List Oper} {o : Oper} {a : Act} {Q : Exit → Act → World → Prop} (hgd : o.guard = none) (s x : Operand)
    (ho : o.op = .call { callee := .builtin .append, args := #[s, x], argTypes := #[t, t] }) {W : World} (base : Nat) (v : Value) (n : Nat) (xs : List Value) (hs : a.eval s = v)
    (hown : W.ownsRow base e 1 v n xs) (g off m c : Nat) (hx : a.eval x = .slice (some ⟨g, off, none⟩) m c) (news : List Int) (hl : news.length = m) (hc : ∀ j u, news[j]? = some u → W.cell? ⟨g, off + j, none⟩ = some (.int .i64 u))
    (h63 : n + m ≤ 1000000000) (hbase : base ≤ W.heap.size)
    (h : ∀ v' w', w'.ownsRow base e 1 v' (n + m) (xs ++ news.map (Value.int .i64)) → Kept (fun b => v.ownBlock = some b) W w' → wpList P ops Q rest (a.put o.dst v') w') :
    wpList P ops Q (o :: rest) a W := by
  obtain ⟨i, z, hi, hz, hsz, hby, hzs⟩ := E.info
  refine wpList_append_own _ hgd s x t ho base e i z 1 8 E.under hi hz hsz hby hzs E.pos v n xs hs hown ⟨g, off, none⟩ m c (news.map (Value.int .i64)) hx (by simp [hl]) ?_ ?_ (by unfold maxLen; omega) (by omega) hbase ?_
  · intro j u hj
    rw [List.getElem?_map] at hj
    obtain ⟨y, hy, rfl⟩ := Option.map_eq_some_iff.1 hj
    rw [Addr.add_mid]
    exact hc j y hy
  · intro u hu
    simp at hu
    obtain ⟨y, _, rfl⟩ := hu
    rfl
  · intro v' w' hown' hg _
    exact h v' w' hown' (Kept.of_grown hg)
end Go.Proofs.YthpbejdigllmbaaDoor

/- join. -/
import Derived.Test.YtaedijppbghnaaaBkGen
import Derived.Test.YtaedijppbghnaaaBkWant
import Derived.Test.YtaedijppbghnaaaBkJPlain
namespace Go.Proofs.Ytaedijppbghnaaa
open Go.RowKit Go.Shelf
open Bk (Sp Ev ev0 ev1 evs grp jst jstep JS)

attribute [local go_sem] Oper.semAt_some

/-- What join hands back. -/
def JoinPost (want : Bool → Bool → Bool) (a b : List Sp) (w : World) (e : Ending) (w' : World) : Prop :=
  ∃ v s, e = .returned v ∧ s.Perm (evs a b) ∧ s.Pairwise (fun x y => x.1 ≤ y.1) ∧ Prs w' v (Bk.jn want 0 0 none (grp s)) ∧ (∀ c, v.ownBlock = some c → w.heap.size ≤ c) ∧ Kept (fun _ => False) w w'

theorem RowAt.cells {w : World} {b : Nat} {v : Value} {vs : List Value} (h : RowAt w b (v :: vs)) {B : Nat} : ¬ NoCells B w b := by
  rintro ⟨-, o, ho, hc⟩
  have h0 := h.get (j := 0) rfl
  unfold World.cell? at h0
  rw [ho] at h0
  cases o <;> simp_all [Obj.isCells]
/-- How join stands behind some groups. -/
structure JI (want : Bool → Bool → Bool) (fv : Value) (w w1 : World) (pre : List Ev) (W : World) : Prop where
  fn : RowAt W w.heap.size [fv]
  many : RowAt W (w.heap.size + 1 + 1) [.int .i64 (jst want pre).m0, .int .i64 (jst want pre).m1]
  opn : RowAt W (w.heap.size + 1 + 1 + 1) [.bool (jst want pre).op.isSome]
  out : ∃ vo, RowAt W (w.heap.size + 1) [vo] ∧ W.ownsRow w1.heap.size 42 2 vo (jst want pre).out.length (pc (jst want pre).out)
  kept : Kept (fun _ => False) w W
  size : w1.heap.size ≤ W.heap.size
theorem JI.move {want : Bool → Bool → Bool} {fv : Value} {w w1 W W' : World} {pre : List Ev} (h : JI want fv w w1 pre W) {S : Nat → Prop} (K : Kept S W W') (hS : ∀ b, S b → w.heap.size + 1 + 1 + 1 < b ∧ (w1.heap.size ≤ b → NoCells w1.heap.size W b)) : JI want fv w w1 pre W' where
  fn := h.fn.kept K (fun q => by have := (hS _ q).1; omega)
  many := h.many.kept K (fun q => by have := (hS _ q).1; omega)
  opn := h.opn.kept K (fun q => by have := (hS _ q).1; omega)
  out := by
    obtain ⟨vo, h1, h2⟩ := h.out
    exact ⟨vo, h1.kept K (fun q => by have := (hS _ q).1; omega), ownsRow_kept h2 K (fun b hb hb2 q => ownsRow_cells h2 hb2 ((hS _ q).2 hb))⟩
  kept := h.kept.trans K (fun i hi q => by have := (hS _ q).1; omega)
  size := Nat.le_trans h.size K.size

/-- The blocks that a round of join may write. -/
def JW (w w1 W : World) (b : Nat) : Prop := (w.heap.size + 1 ≤ b ∧ b ≤ w.heap.size + 1 + 1 + 1) ∨ (w1.heap.size ≤ b ∧ ¬ NoCells w1.heap.size W b)
theorem jfin {w w1 W W' : World} {B : Nat} {v : Value} (K : Kept (JW w w1 W) W W') (hB : w.heap.size + 1 + 1 + 1 < B ∧ B < w1.heap.size) (hv : ∀ c, v.ownBlock = some c → w.heap.size + 1 + 1 + 1 < c ∧ c < w1.heap.size) :
    KeepsFrom w1.heap.size W W' ∧ GKp B v W W' :=
  ⟨keepsFrom_of_kept K (fun b q => by
    rcases q with q | q
    · exact fun n => by have := n.1; omega
    · exact q.2), K.mono fun b _ q => by
      rcases q with q | q
      · exact ⟨by omega, fun e => by have := hv b e; omega⟩
      · exact ⟨by omega, fun e => by have := hv b e; omega⟩⟩
theorem jkept {w w1 W W' : World} (h : Kept (fun _ => False) w W) (K : Kept (JW w w1 W) W W') (hlt : w.heap.size < w1.heap.size) : Kept (fun _ => False) w W' :=
  h.trans K (fun i hi q => by rcases q with q | q <;> omega)

set_option maxRecDepth 100000 in
set_option maxHeartbeats 2000000 in
theorem join_in36 (n : Nat) (hn : 3 ≤ n) (want : Bool → Bool → Bool)
    (HWT : Hid (∀ x y w, Calls Try.prog 36 #[.bool x, .bool y] w fun e w' => e = .returned (.bool (want x y)) ∧ w = w'))
    {w : World} {va vb : Value} {a b : List Sp} (ha : Prs w va a) (hb : Prs w vb b) (hla : a.length ≤ 100000) (hlb : b.length ≤ 100000) (ga : ∀ s ∈ a, (0 ≤ s.1 ∧ s.1 ≤ s.2) ∧ s.2 ≤ 253402300799) (gb : ∀ s ∈ b, (0 ≤ s.1 ∧ s.1 ≤ s.2) ∧ s.2 ≤ 253402300799) :
    CallsIn Fence.wide n Try.prog 52 #[va, vb, .func (.func 36) #[] #[]] w (JoinPost want a b w) := by
  have h1 : 1 ≤ n := by omega
  have hbord : ∀ W, Kept (fun _ => False) w W → Calls Try.prog 57 #[va, vb] W (BordersPost a b W) := fun W K => borders_c (ha.same K) (hb.same K) hla hlb (fun s hs => by have := ga s hs; omega) (fun s hs => by have := gb s hs; omega)
  have HBD := Lib.hid hbord
  have hev : ∀ s : List Ev, s.Perm (evs a b) → s.length ≤ 1000000 ∧ (∀ e ∈ s, (-1 ≤ e.2.1 ∧ e.2.1 ≤ 1) ∧ (-1 ≤ e.2.2 ∧ e.2.2 ≤ 1)) ∧ (∀ e ∈ s, 0 ≤ e.1 ∧ e.1 ≤ 253402300800) := fun s hp => by
    refine ⟨by rw [hp.length_eq, evs, List.length_append, ev0_len, ev1_len]; omega, fun e he => ?_, fun e he => ?_⟩
    · have he := hp.mem_iff.1 he
      simp only [evs, ev0, ev1, List.mem_append, List.mem_flatMap, List.mem_cons, List.not_mem_nil, or_false] at he
      rcases he with ⟨s, hs, rfl | rfl⟩ | ⟨s, hs, rfl | rfl⟩ <;> simp
    · have he := hp.mem_iff.1 he
      simp only [evs, ev0, ev1, List.mem_append, List.mem_flatMap, List.mem_cons, List.not_mem_nil, or_false] at he
      rcases he with ⟨s, hs, rfl | rfl⟩ | ⟨s, hs, rfl | rfl⟩ <;> (first | have := ga s hs | have := gb s hs) <;> simp only <;> omega
  have HEV := Lib.hid hev
  obtain ⟨aa, ca, rfl⟩ := ha.len
  obtain ⟨ab, cb, rfl⟩ := hb.len
  clear hbord hev ha hb hla hlb ga gb
  refine callsIn_of_wp_marks Try.func52 rfl trivial ?_ rfl
  simp only [Try.ntmps52, List.size_toArray, List.length_cons, List.length_nil, Nat.reduceAdd, Nat.reduceSub, Array.replicate_succ, Array.replicate_zero, List.push_toArray, List.append_toArray, List.nil_append, List.cons_append]
  gi_wp2_with fail
  refine ⟨trivial, ?_⟩
  have r0 := RowAt.new w 56 #[.func (.func 36) #[] #[]]
  have r1 := RowAt.new (w.alloc (.cells #[.func (.func 36) #[] #[]] 56)) 23 #[.slice none 0 0]
  have r2 := RowAt.new ((w.alloc (.cells #[.func (.func 36) #[] #[]] 56)).alloc (.cells #[.slice none 0 0] 23)) 71 #[.int .i64 0, .int .i64 0]
  have r3 := RowAt.new (((w.alloc (.cells #[.func (.func 36) #[] #[]] 56)).alloc (.cells #[.slice none 0 0] 23)).alloc (.cells #[.int .i64 0, .int .i64 0] 71)) 4 #[.bool false]
  simp only [World.size_alloc] at r1 r2 r3
  have k0 : Kept (fun _ => False) w ((((w.alloc (.cells #[.func (.func 36) #[] #[]] 56)).alloc (.cells #[.slice none 0 0] 23)).alloc (.cells #[.int .i64 0, .int .i64 0] 71)).alloc (.cells #[.bool false] 4)) := ((((Kept.refl _ _).alloc _).alloc _).alloc _).alloc _
  refine (callsIn_wide.2 (HBD.out _ k0)).mono ?_
  rintro e w1 ⟨B, v, s, rfl, hB, hrow, hp, hs, ht, hvo, K1⟩
  obtain ⟨e1, e2, e3⟩ := HEV.out s hp
  simp only [World.size_alloc] at hB hvo
  have hji : JI want (.func (.func 36) #[] #[]) w w1 [] w1 :=
    ⟨((((r0.same ((Kept.refl _ _).alloc _)).same ((Kept.refl _ _).alloc _)).same ((Kept.refl _ _).alloc _)).same K1), ((r2.same ((Kept.refl _ _).alloc _)).same K1), r3.same K1,
      ⟨.slice none 0 0, (((r1.same ((Kept.refl _ _).alloc _)).same ((Kept.refl _ _).alloc _)).same K1), ⟨rfl, .inl ⟨rfl, rfl⟩⟩⟩, k0.trans K1 (fun _ _ h => h), Nat.le_refl _⟩
  have hlt : w.heap.size + 1 + 1 + 1 < w1.heap.size := by have := hrow.lt; omega
  have HJ := Lib.hid hji
  have HV := Lib.hid hvo
  have HS := Lib.hid (And.intro hp hs)
  clear r0 r1 r2 r3 k0 hji hvo hp hs K1
  gi_wp2_with fail
  refine wpIn_rangeFunc_W rfl h1 (gf := 61) (lb := #[.pointer (some ⟨B, 0, none⟩)]) rfl trivial (enters_of Try.func61 (by kernel_rfl) rfl)
    (gen_seq (n - 1) (by omega) B v s e1 e2 (fun q => (HV.out B q).2.1 rfl) w1 hrow ht) (fun b q => by subst q; exact hrow.lt) (fun h k => h.trans k (fun _ _ q => q))
    (fun W l o hl => kept_putObj W l o (fun _ => ⟨fun q => by have := hrow.lt; omega, fun q => by have := (HV.out _ q).2.2; omega⟩)) (fun _ => rfl)
    (JI want (.func (.func 36) #[] #[]) w w1) (fun pre A A' h K => h.move K (fun b q => by
      rcases q with rfl | q
      · exact ⟨by omega, fun q => by have := hrow.lt; omega⟩
      · exact ⟨by have := q.1; omega, fun _ => q⟩)) HJ.out
    (fun x a' W => ∃ D, a' = { tmps := #[.slice aa a.length ca, .slice ab b.length cb, .func (.func 36) #[] #[], undef, undef, .pointer (some ⟨w.heap.size, 0, none⟩), .slice none 0 0, .pointer (some ⟨w.heap.size + 1, 0, none⟩), .pointer (some ⟨w.heap.size + 1 + 1, 0, none⟩), .pointer (some ⟨w.heap.size + 1 + 1 + 1, 0, none⟩), .pointer (some ⟨D, 0, none⟩), undef, .slice aa a.length ca, .slice ab b.length cb, .func (.func 61) #[] #[.pointer (some ⟨B, 0, none⟩)], .agg #[.int .i64 x.1, .int .i64 x.2.1, .int .i64 x.2.2], undef, undef, undef, undef, undef, undef, undef, undef, undef, undef, undef, undef, undef, undef, undef, undef, undef, undef, undef, undef, undef, undef, undef, undef, undef, undef, undef, undef, undef, undef, undef, undef, undef, undef, undef, undef, undef, undef, undef, undef, undef, undef, undef, undef, undef, undef, undef, undef, undef, undef, undef], defers := [] } ∧ RowAt W D [.int .i64 x.1, .int .i64 x.2.1, .int .i64 x.2.2] ∧ w1.heap.size ≤ D)
    (fun x a' A A' h K => by
      obtain ⟨D, h1, h2, h3⟩ := h
      exact ⟨D, h1, h2.kept K (fun q => h2.cells q), h3⟩) ?assign ?body ?done
  case assign =>
    intro l pre x W K hI hK
    have HI := Lib.hid hI
    clear hI
    gi_wp2
    exact hK _ _ (keepsFrom_of_kept ((Kept.refl (fun _ => False) W).alloc _) (fun _ h => h.elim)) ((Kept.refl _ W).alloc _) (HI.out.move ((Kept.refl (fun _ => False) W).alloc _) (fun _ h => h.elim)) ⟨_, rfl, RowAt.new _ _ _, HI.out.size⟩
  case done =>
    rintro D ys W hD rfl hI hK
    obtain ⟨vo, ho1, ho2⟩ := hI.out
    have hc := ho1.get (j := 0) rfl
    have HI := Lib.hid hI
    have HO := Lib.hid ho2
    clear hI ho1 ho2
    gi_wp2
    refine ⟨by simp, .inl ⟨_, _, rfl, run_takeDeferred hK, ?_⟩⟩
    refine ⟨_, results_tmp rfl _ _ _, ?_⟩
    have hpr : Prs W vo (Bk.jn want 0 0 none (grp s)) := by
      rw [← Bk.jst_jn]
      exact Prs.of_own HO.out
    have kD : Kept (fun b => b = D) W (W.putObj D (.deferred none)) := kept_putObj (S := fun b => b = D) W D _ (fun _ => rfl)
    refine ⟨vo, s, rfl, HS.out.1, HS.out.2, hpr.kept kD (fun b hb hp q => ?_), fun c h => ?_, HI.out.kept.trans kD (fun i hi h => by omega)⟩
    · subst q
      obtain ⟨g, cap, e, -⟩ := ownsRow_pos HO.out (by rw [Bk.jst_jn]; exact hp)
      subst e
      simp only [Value.ownBlock, Option.some.injEq] at hb
      subst hb
      have := HO.out.2
      rcases this with ⟨q, -⟩ | ⟨g', cap', cur, q, hg, hh, -⟩
      · cases q
      · injection q with q; injection q with q; injection q with q
        subst q
        rw [hh] at hK
        cases hK
    · have := (ownsRow_block HO.out h).1; omega
  case body =>
    rintro l pre x a' W hI ⟨D, rfl, hD, hDl⟩ hSx
    obtain ⟨bm, bx, bt, bl⟩ := Bk.pre_bd want hSx e1 e2 e3
    obtain ⟨vo, ho1, ho2⟩ := hI.out
    have a0 := hI.fn.get (j := 0) rfl
    have m0 := hI.many.get (j := 0) rfl
    have m1 := hI.many.get (j := 1) rfl
    have z0 := hI.many.fz 0
    have z1 := hI.many.fz 1
    have d0 := hD.get (j := 0) rfl
    have d1 := hD.get (j := 1) rfl
    have d2 := hD.get (j := 2) rfl
    have ne1 : D ≠ w.heap.size + 1 + 1 := by omega
    have ne2 : w.heap.size + 1 + 1 ≠ D := by omega
    have HI := Lib.hid hI
    have HO := Lib.hid (And.intro ho1 ho2)
    have HD := Lib.hid hD
    have HST := Lib.hid (Bk.jst_snoc want pre x)
    have HOL := Lib.hid (Bk.jst_out_len want pre)
    clear hI ho1 ho2 hD
    obtain ⟨st, hst⟩ : ∃ st, jst want pre = st := ⟨_, rfl⟩
    rw [hst] at bm m0 m1
    have HSE := Lib.hid hst
    clear hst
    obtain ⟨x0, x1, x2⟩ := x
    obtain ⟨s0, s1, op, acc⟩ := st
    simp only at bm bx bt m0 m1 d0 d1 d2
    gi_wp2_with fail
    refine ⟨trivial, fun h => (by cases h), ?_⟩
    refine (CallsIn.inRound l (callsIn_wide.2 (HWT.out _ _ _))).mono ?_
    rintro e w2 ⟨rfl, rfl⟩
    have k2 : Kept (fun b => b = w.heap.size + 1 + 1) W ((W.setCell ⟨w.heap.size + 1 + 1, 0, none⟩ (.int .i64 (s0 + x1))).setCell ⟨w.heap.size + 1 + 1, 1, none⟩ (.int .i64 (s1 + x2))) := ((Kept.refl _ _).setCell _ _ (by simp)).setCell _ _ (by simp)
    have many2 : RowAt ((W.setCell ⟨w.heap.size + 1 + 1, 0, none⟩ (.int .i64 (s0 + x1))).setCell ⟨w.heap.size + 1 + 1, 1, none⟩ (.int .i64 (s1 + x2))) (w.heap.size + 1 + 1) [.int .i64 (s0 + x1), .int .i64 (s1 + x2)] :=
      (HI.out.many.set (j := 0) (by simp) (.int .i64 (s0 + x1))).set (j := 1) (by simp) (.int .i64 (s1 + x2))
    generalize (W.setCell ⟨w.heap.size + 1 + 1, 0, none⟩ (.int .i64 (s0 + x1))).setCell ⟨w.heap.size + 1 + 1, 1, none⟩ (.int .i64 (s1 + x2)) = W2 at k2 many2 ⊢
    have K2 : Kept (JW w w1 W) W W2 := k2.mono fun b _ q => .inl (by omega)
    have fn2 := HI.out.fn.kept k2 (by omega)
    have opn2 := HI.out.opn.kept k2 (by omega)
    have out2 := HO.out.1.kept k2 (by omega)
    have own2 := ownsRow_kept HO.out.2 k2 (fun b hb _ q => by omega)
    have ci2 : ∀ b, vo.ownBlock = some b → w1.heap.size ≤ b ∧ ¬ NoCells w1.heap.size W b := fun b hb => ⟨(ownsRow_block HO.out.2 hb).1, ownsRow_cells HO.out.2 hb⟩
    have dd0 := (HD.out.kept k2 ne1).get (j := 0) rfl
    have hol := HOL.out
    rw [HSE.out] at opn2 own2 hol
    have hnext := HST.out
    rw [HSE.out] at hnext
    have op0 := opn2.get (j := 0) rfl
    have opz := opn2.fz 0
    have ou0 := out2.get (j := 0) rfl
    have ouz := out2.fz 0
    rcases hr : want (decide (0 < s0 + x1)) (decide (0 < s1 + x2)) with _ | _
    · cases op with
      | none =>
        have hn2 : jst want (pre ++ [(x0, x1, x2)]) = ⟨s0 + x1, s1 + x2, none, acc⟩ := hnext.trans (by simp [jstep, hr])
        have k3 : Kept (fun b => b = w.heap.size + 1 + 1 + 1) W2 (W2.setCell ⟨w.heap.size + 1 + 1 + 1, 0, none⟩ (.bool false)) := (Kept.refl _ _).setCell _ _ (by simp)
        have K3 : Kept (JW w w1 W) W (W2.setCell ⟨w.heap.size + 1 + 1 + 1, 0, none⟩ (.bool false)) := K2.trans k3 (fun b hb q => .inl (by omega))
        have fin := Lib.hid (And.intro (jfin (v := v) (B := B) K3 ⟨by omega, hrow.lt⟩ (fun c hc => by have := HV.out c hc; omega)) (show JI want (.func (.func 36) #[] #[]) w w1 (pre ++ [(x0, x1, x2)]) (W2.setCell ⟨w.heap.size + 1 + 1 + 1, 0, none⟩ (.bool false)) from
          ⟨fn2.kept k3 (by omega), by rw [hn2]; exact many2.kept k3 (by omega), by rw [hn2]; exact opn2.set (j := 0) (by simp) _, by rw [hn2]; exact ⟨vo, out2.kept k3 (by omega), ownsRow_kept own2 k3 (fun b hb _ q => by omega)⟩, jkept HI.out.kept K3 (by omega), Nat.le_trans HI.out.size K3.size⟩))
        clear hnext hn2 k3 K3 K2 k2 fn2 opn2 out2 own2 many2 a0 m0 m1 z0 z1 d0 d1 d2 bm bx bl hol ci2
        gi_wp2
        exact ⟨fin.out.1.1, fin.out.1.2, fin.out.2⟩
      | some f =>
        have hn2 : jst want (pre ++ [(x0, x1, x2)]) = ⟨s0 + x1, s1 + x2, none, acc ++ [(f, x0 - 1)]⟩ := hnext.trans (by simp [jstep, hr])
        have hacc : (JS.mk s0 s1 (some f) acc).out = acc ++ [(f, 0)] := rfl
        rw [hacc, List.length_append, List.length_singleton] at own2
        obtain ⟨g, cg, rfl, hg⟩ := ownsRow_pos own2 (by omega)
        have hcl := ci2 g rfl
        have hgl := (ownsRow_block own2 (b := g) rfl).2
        have hll : acc.length ≤ 1000000 := by have := hol; rw [hacc] at this; simp at this; omega
        have gc : W2.cell? ⟨g, acc.length * 2 + 1, none⟩ = some (.int .i64 0) := by
          rw [own2.cellAt _ (by omega)]
          have := (pc_get (l := acc ++ [(f, 0)]) (j := acc.length) (x := (f, 0)) (by simp)).2
          exact this
        have gz : W2.frozen? ⟨g, acc.length * 2 + 1, none⟩ = false := by
          rcases own2.2 with ⟨q, -⟩ | ⟨g', cap', cur, q, hg, hh, -⟩
          · cases q
          · injection q with q; injection q with q; injection q with q
            subst q
            simp [World.frozen?, hh]
        have own3 := own_set2 own2 (x0 - 1)
        have k3 : Kept (fun b => b = g) W2 (W2.setCell ⟨g, acc.length * 2 + 1, none⟩ (.int .i64 (x0 - 1))) := (Kept.refl _ _).setCell _ _ (by simp)
        have k4 : Kept (fun b => b = w.heap.size + 1 + 1 + 1) (W2.setCell ⟨g, acc.length * 2 + 1, none⟩ (.int .i64 (x0 - 1))) ((W2.setCell ⟨g, acc.length * 2 + 1, none⟩ (.int .i64 (x0 - 1))).setCell ⟨w.heap.size + 1 + 1 + 1, 0, none⟩ (.bool false)) := (Kept.refl _ _).setCell _ _ (by simp)
        have K3 : Kept (JW w w1 W) W ((W2.setCell ⟨g, acc.length * 2 + 1, none⟩ (.int .i64 (x0 - 1))).setCell ⟨w.heap.size + 1 + 1 + 1, 0, none⟩ (.bool false)) := (K2.trans k3 (fun b hb q => .inr (by subst q; exact hcl))).trans k4 (fun b hb q => .inl (by omega))
        have fin := Lib.hid (And.intro (jfin (v := v) (B := B) K3 ⟨by omega, hrow.lt⟩ (fun c hc => by have := HV.out c hc; omega)) (show JI want (.func (.func 36) #[] #[]) w w1 (pre ++ [(x0, x1, x2)]) ((W2.setCell ⟨g, acc.length * 2 + 1, none⟩ (.int .i64 (x0 - 1))).setCell ⟨w.heap.size + 1 + 1 + 1, 0, none⟩ (.bool false)) from
          ⟨(fn2.kept k3 (by omega)).kept k4 (by omega), by rw [hn2]; exact (many2.kept k3 (by omega)).kept k4 (by omega), by rw [hn2]; exact (opn2.kept k3 (by omega)).set (j := 0) (by simp) _, by
            rw [hn2]
            refine ⟨.slice (some ⟨g, 0, none⟩) (acc.length + 1) cg, (out2.kept k3 (by omega)).kept k4 (by omega), ?_⟩
            have := ownsRow_kept own3 k4 (fun b hb _ q => by omega)
            simpa [JS.out] using this, jkept HI.out.kept K3 (by omega), Nat.le_trans HI.out.size K3.size⟩))
        have nx : wrap64 (x0 - 1) = x0 - 1 := IntWalk.wrap64_in _ (by omega)
        have ng1 : g ≠ w.heap.size + 1 + 1 + 1 := by omega
        have ng2 : w.heap.size + 1 + 1 + 1 ≠ g := by omega
        have ng3 : w.heap.size + 1 ≠ g := by omega
        have ng4 : D ≠ g ∨ True := .inr trivial
        clear hnext hn2 k3 k4 K3 K2 k2 fn2 opn2 out2 own2 own3 many2 a0 m0 m1 z0 z1 d0 d1 d2 bm bx bl hol ci2 hacc ng4
        gi_wp2
        exact ⟨fin.out.1.1, fin.out.1.2, fin.out.2⟩
    · cases op with
      | none =>
        have hn2 : jst want (pre ++ [(x0, x1, x2)]) = ⟨s0 + x1, s1 + x2, some x0, acc⟩ := hnext.trans (by simp [jstep, hr])
        have hacc : (JS.mk s0 s1 none acc).out = acc := List.append_nil _
        rw [hacc] at own2 hol
        have hbw : w1.heap.size ≤ W2.heap.size := Nat.le_trans HI.out.size k2.size
        obtain ⟨i, z, hi, hz, hsz, hby, hzs⟩ := el23.info
        obtain ⟨v', w5, hrun, own5, hg5, hor⟩ := run_append_new (P := Try.prog) (W2.alloc (.cells #[.int .i64 x0, .int .i64 0] 42)) w1.heap.size 23 23 42 i z 2 16 Try.underlying23 hi hz hsz hby hzs (by decide) vo acc.length (pc acc) (own2.alloc _) ⟨W2.heap.size, 0, none⟩ 1 1 [.int .i64 x0, .int .i64 0] rfl
          (fun j u hj => by rw [Addr.add_mid, Nat.zero_add, World.cell?_alloc_at _ _ _ _ rfl]; simpa using hj) (by intro u hu; simp at hu; rcases hu with rfl | rfl <;> rfl) (by unfold maxLen; omega) (by omega) (by simp; omega) (by decide)
        obtain ⟨g, cg, rfl⟩ : ∃ g cg, v' = .slice (some ⟨g, 0, none⟩) (acc.length + 1) cg := by
          obtain ⟨g, cap, hv, -⟩ := ownsRow_pos own5 (by omega)
          exact ⟨g, cap, hv⟩
        have k5 : Kept (fun b => vo.ownBlock = some b) W2 w5 := ((Kept.refl _ W2).alloc _).trans (Kept.of_grown hg5) (fun i _ q => q)
        have hob := fun b (hb : vo.ownBlock = some b) => (ownsRow_block own2 hb).1
        have out5 := out2.kept k5 (fun q => by have := hob _ q; omega)
        have opn5 := opn2.kept k5 (fun q => by have := hob _ q; omega)
        have hgb := (ownsRow_block own5 (b := g) rfl).1
        have o5 := out5.get (j := 0) rfl
        have z5 := out5.fz 0
        have p5 := opn5.get (j := 0) rfl
        have q5 := opn5.fz 0
        have k6 : Kept (fun b => b = w.heap.size + 1) w5 (w5.setCell ⟨w.heap.size + 1, 0, none⟩ (.slice (some ⟨g, 0, none⟩) (acc.length + 1) cg)) := (Kept.refl _ _).setCell _ _ (by simp)
        have k7 : Kept (fun b => b = w.heap.size + 1 + 1 + 1) (w5.setCell ⟨w.heap.size + 1, 0, none⟩ (.slice (some ⟨g, 0, none⟩) (acc.length + 1) cg)) ((w5.setCell ⟨w.heap.size + 1, 0, none⟩ (.slice (some ⟨g, 0, none⟩) (acc.length + 1) cg)).setCell ⟨w.heap.size + 1 + 1 + 1, 0, none⟩ (.bool true)) := (Kept.refl _ _).setCell _ _ (by simp)
        have K7 : Kept (JW w w1 W) W ((w5.setCell ⟨w.heap.size + 1, 0, none⟩ (.slice (some ⟨g, 0, none⟩) (acc.length + 1) cg)).setCell ⟨w.heap.size + 1 + 1 + 1, 0, none⟩ (.bool true)) :=
          ((K2.trans k5 (fun b hb q => .inr (ci2 b q))).trans k6 (fun b hb q => .inl (by omega))).trans k7 (fun b hb q => .inl (by omega))
        have fin := Lib.hid (And.intro (jfin (v := v) (B := B) K7 ⟨by omega, hrow.lt⟩ (fun c hc => by have := HV.out c hc; omega)) (show JI want (.func (.func 36) #[] #[]) w w1 (pre ++ [(x0, x1, x2)]) ((w5.setCell ⟨w.heap.size + 1, 0, none⟩ (.slice (some ⟨g, 0, none⟩) (acc.length + 1) cg)).setCell ⟨w.heap.size + 1 + 1 + 1, 0, none⟩ (.bool true)) from
          ⟨((fn2.kept k5 (fun q => by have := hob _ q; omega)).kept k6 (by omega)).kept k7 (by omega), by rw [hn2]; exact ((many2.kept k5 (fun q => by have := hob _ q; omega)).kept k6 (by omega)).kept k7 (by omega), by rw [hn2]; exact (opn5.kept k6 (by omega)).set (j := 0) (by simp) _, by
            rw [hn2]
            refine ⟨.slice (some ⟨g, 0, none⟩) (acc.length + 1) cg, (out5.set (j := 0) (by simp) _).kept k7 (by omega), ?_⟩
            have := ownsRow_kept (ownsRow_kept own5 k6 (fun b hb _ q => by omega)) k7 (fun b hb _ q => by omega)
            simpa [JS.out, pc_append, pc] using this, jkept HI.out.kept K7 (by omega), Nat.le_trans HI.out.size K7.size⟩))
        clear hnext hn2 k5 k6 k7 K7 K2 k2 fn2 opn2 out2 own2 own5 out5 opn5 hob hgb hor hg5 many2 a0 m0 m1 z0 z1 d0 d1 d2 bm bx bl hol ci2 hacc hi hz hsz hby hzs hbw
        simp [go_sem] at hrun
        gi_wp2
        exact ⟨fin.out.1.1, fin.out.1.2, fin.out.2⟩
      | some f =>
        have hn2 : jst want (pre ++ [(x0, x1, x2)]) = ⟨s0 + x1, s1 + x2, some f, acc⟩ := hnext.trans (by simp [jstep, hr])
        have k3 : Kept (fun b => b = w.heap.size + 1 + 1 + 1) W2 (W2.setCell ⟨w.heap.size + 1 + 1 + 1, 0, none⟩ (.bool true)) := (Kept.refl _ _).setCell _ _ (by simp)
        have K3 : Kept (JW w w1 W) W (W2.setCell ⟨w.heap.size + 1 + 1 + 1, 0, none⟩ (.bool true)) := K2.trans k3 (fun b hb q => .inl (by omega))
        have fin := Lib.hid (And.intro (jfin (v := v) (B := B) K3 ⟨by omega, hrow.lt⟩ (fun c hc => by have := HV.out c hc; omega)) (show JI want (.func (.func 36) #[] #[]) w w1 (pre ++ [(x0, x1, x2)]) (W2.setCell ⟨w.heap.size + 1 + 1 + 1, 0, none⟩ (.bool true)) from
          ⟨fn2.kept k3 (by omega), by rw [hn2]; exact many2.kept k3 (by omega), by rw [hn2]; exact opn2.set (j := 0) (by simp) _, by rw [hn2]; exact ⟨vo, out2.kept k3 (by omega), ownsRow_kept own2 k3 (fun b hb _ q => by omega)⟩, jkept HI.out.kept K3 (by omega), Nat.le_trans HI.out.size K3.size⟩))
        clear hnext hn2 k3 K3 K2 k2 fn2 opn2 out2 own2 many2 a0 m0 m1 z0 z1 d0 d1 d2 bm bx bl hol ci2
        gi_wp2
        exact ⟨fin.out.1.1, fin.out.1.2, fin.out.2⟩
set_option maxRecDepth 100000 in
set_option maxHeartbeats 2000000 in
theorem join_in37 (n : Nat) (hn : 3 ≤ n) (want : Bool → Bool → Bool)
    (HWT : Hid (∀ x y w, Calls Try.prog 37 #[.bool x, .bool y] w fun e w' => e = .returned (.bool (want x y)) ∧ w = w'))
    {w : World} {va vb : Value} {a b : List Sp} (ha : Prs w va a) (hb : Prs w vb b) (hla : a.length ≤ 100000) (hlb : b.length ≤ 100000) (ga : ∀ s ∈ a, (0 ≤ s.1 ∧ s.1 ≤ s.2) ∧ s.2 ≤ 253402300799) (gb : ∀ s ∈ b, (0 ≤ s.1 ∧ s.1 ≤ s.2) ∧ s.2 ≤ 253402300799) :
    CallsIn Fence.wide n Try.prog 52 #[va, vb, .func (.func 37) #[] #[]] w (JoinPost want a b w) := by
  have h1 : 1 ≤ n := by omega
  have hbord : ∀ W, Kept (fun _ => False) w W → Calls Try.prog 57 #[va, vb] W (BordersPost a b W) := fun W K => borders_c (ha.same K) (hb.same K) hla hlb (fun s hs => by have := ga s hs; omega) (fun s hs => by have := gb s hs; omega)
  have HBD := Lib.hid hbord
  have hev : ∀ s : List Ev, s.Perm (evs a b) → s.length ≤ 1000000 ∧ (∀ e ∈ s, (-1 ≤ e.2.1 ∧ e.2.1 ≤ 1) ∧ (-1 ≤ e.2.2 ∧ e.2.2 ≤ 1)) ∧ (∀ e ∈ s, 0 ≤ e.1 ∧ e.1 ≤ 253402300800) := fun s hp => by
    refine ⟨by rw [hp.length_eq, evs, List.length_append, ev0_len, ev1_len]; omega, fun e he => ?_, fun e he => ?_⟩
    · have he := hp.mem_iff.1 he
      simp only [evs, ev0, ev1, List.mem_append, List.mem_flatMap, List.mem_cons, List.not_mem_nil, or_false] at he
      rcases he with ⟨s, hs, rfl | rfl⟩ | ⟨s, hs, rfl | rfl⟩ <;> simp
    · have he := hp.mem_iff.1 he
      simp only [evs, ev0, ev1, List.mem_append, List.mem_flatMap, List.mem_cons, List.not_mem_nil, or_false] at he
      rcases he with ⟨s, hs, rfl | rfl⟩ | ⟨s, hs, rfl | rfl⟩ <;> (first | have := ga s hs | have := gb s hs) <;> simp only <;> omega
  have HEV := Lib.hid hev
  obtain ⟨aa, ca, rfl⟩ := ha.len
  obtain ⟨ab, cb, rfl⟩ := hb.len
  clear hbord hev ha hb hla hlb ga gb
  refine callsIn_of_wp_marks Try.func52 rfl trivial ?_ rfl
  simp only [Try.ntmps52, List.size_toArray, List.length_cons, List.length_nil, Nat.reduceAdd, Nat.reduceSub, Array.replicate_succ, Array.replicate_zero, List.push_toArray, List.append_toArray, List.nil_append, List.cons_append]
  gi_wp2_with fail
  refine ⟨trivial, ?_⟩
  have r0 := RowAt.new w 56 #[.func (.func 37) #[] #[]]
  have r1 := RowAt.new (w.alloc (.cells #[.func (.func 37) #[] #[]] 56)) 23 #[.slice none 0 0]
  have r2 := RowAt.new ((w.alloc (.cells #[.func (.func 37) #[] #[]] 56)).alloc (.cells #[.slice none 0 0] 23)) 71 #[.int .i64 0, .int .i64 0]
  have r3 := RowAt.new (((w.alloc (.cells #[.func (.func 37) #[] #[]] 56)).alloc (.cells #[.slice none 0 0] 23)).alloc (.cells #[.int .i64 0, .int .i64 0] 71)) 4 #[.bool false]
  simp only [World.size_alloc] at r1 r2 r3
  have k0 : Kept (fun _ => False) w ((((w.alloc (.cells #[.func (.func 37) #[] #[]] 56)).alloc (.cells #[.slice none 0 0] 23)).alloc (.cells #[.int .i64 0, .int .i64 0] 71)).alloc (.cells #[.bool false] 4)) := ((((Kept.refl _ _).alloc _).alloc _).alloc _).alloc _
  refine (callsIn_wide.2 (HBD.out _ k0)).mono ?_
  rintro e w1 ⟨B, v, s, rfl, hB, hrow, hp, hs, ht, hvo, K1⟩
  obtain ⟨e1, e2, e3⟩ := HEV.out s hp
  simp only [World.size_alloc] at hB hvo
  have hji : JI want (.func (.func 37) #[] #[]) w w1 [] w1 :=
    ⟨((((r0.same ((Kept.refl _ _).alloc _)).same ((Kept.refl _ _).alloc _)).same ((Kept.refl _ _).alloc _)).same K1), ((r2.same ((Kept.refl _ _).alloc _)).same K1), r3.same K1,
      ⟨.slice none 0 0, (((r1.same ((Kept.refl _ _).alloc _)).same ((Kept.refl _ _).alloc _)).same K1), ⟨rfl, .inl ⟨rfl, rfl⟩⟩⟩, k0.trans K1 (fun _ _ h => h), Nat.le_refl _⟩
  have hlt : w.heap.size + 1 + 1 + 1 < w1.heap.size := by have := hrow.lt; omega
  have HJ := Lib.hid hji
  have HV := Lib.hid hvo
  have HS := Lib.hid (And.intro hp hs)
  clear r0 r1 r2 r3 k0 hji hvo hp hs K1
  gi_wp2_with fail
  refine wpIn_rangeFunc_W rfl h1 (gf := 61) (lb := #[.pointer (some ⟨B, 0, none⟩)]) rfl trivial (enters_of Try.func61 (by kernel_rfl) rfl)
    (gen_seq (n - 1) (by omega) B v s e1 e2 (fun q => (HV.out B q).2.1 rfl) w1 hrow ht) (fun b q => by subst q; exact hrow.lt) (fun h k => h.trans k (fun _ _ q => q))
    (fun W l o hl => kept_putObj W l o (fun _ => ⟨fun q => by have := hrow.lt; omega, fun q => by have := (HV.out _ q).2.2; omega⟩)) (fun _ => rfl)
    (JI want (.func (.func 37) #[] #[]) w w1) (fun pre A A' h K => h.move K (fun b q => by
      rcases q with rfl | q
      · exact ⟨by omega, fun q => by have := hrow.lt; omega⟩
      · exact ⟨by have := q.1; omega, fun _ => q⟩)) HJ.out
    (fun x a' W => ∃ D, a' = { tmps := #[.slice aa a.length ca, .slice ab b.length cb, .func (.func 37) #[] #[], undef, undef, .pointer (some ⟨w.heap.size, 0, none⟩), .slice none 0 0, .pointer (some ⟨w.heap.size + 1, 0, none⟩), .pointer (some ⟨w.heap.size + 1 + 1, 0, none⟩), .pointer (some ⟨w.heap.size + 1 + 1 + 1, 0, none⟩), .pointer (some ⟨D, 0, none⟩), undef, .slice aa a.length ca, .slice ab b.length cb, .func (.func 61) #[] #[.pointer (some ⟨B, 0, none⟩)], .agg #[.int .i64 x.1, .int .i64 x.2.1, .int .i64 x.2.2], undef, undef, undef, undef, undef, undef, undef, undef, undef, undef, undef, undef, undef, undef, undef, undef, undef, undef, undef, undef, undef, undef, undef, undef, undef, undef, undef, undef, undef, undef, undef, undef, undef, undef, undef, undef, undef, undef, undef, undef, undef, undef, undef, undef, undef, undef, undef, undef, undef, undef, undef], defers := [] } ∧ RowAt W D [.int .i64 x.1, .int .i64 x.2.1, .int .i64 x.2.2] ∧ w1.heap.size ≤ D)
    (fun x a' A A' h K => by
      obtain ⟨D, h1, h2, h3⟩ := h
      exact ⟨D, h1, h2.kept K (fun q => h2.cells q), h3⟩) ?assign ?body ?done
  case assign =>
    intro l pre x W K hI hK
    have HI := Lib.hid hI
    clear hI
    gi_wp2
    exact hK _ _ (keepsFrom_of_kept ((Kept.refl (fun _ => False) W).alloc _) (fun _ h => h.elim)) ((Kept.refl _ W).alloc _) (HI.out.move ((Kept.refl (fun _ => False) W).alloc _) (fun _ h => h.elim)) ⟨_, rfl, RowAt.new _ _ _, HI.out.size⟩
  case done =>
    rintro D ys W hD rfl hI hK
    obtain ⟨vo, ho1, ho2⟩ := hI.out
    have hc := ho1.get (j := 0) rfl
    have HI := Lib.hid hI
    have HO := Lib.hid ho2
    clear hI ho1 ho2
    gi_wp2
    refine ⟨by simp, .inl ⟨_, _, rfl, run_takeDeferred hK, ?_⟩⟩
    refine ⟨_, results_tmp rfl _ _ _, ?_⟩
    have hpr : Prs W vo (Bk.jn want 0 0 none (grp s)) := by
      rw [← Bk.jst_jn]
      exact Prs.of_own HO.out
    have kD : Kept (fun b => b = D) W (W.putObj D (.deferred none)) := kept_putObj (S := fun b => b = D) W D _ (fun _ => rfl)
    refine ⟨vo, s, rfl, HS.out.1, HS.out.2, hpr.kept kD (fun b hb hp q => ?_), fun c h => ?_, HI.out.kept.trans kD (fun i hi h => by omega)⟩
    · subst q
      obtain ⟨g, cap, e, -⟩ := ownsRow_pos HO.out (by rw [Bk.jst_jn]; exact hp)
      subst e
      simp only [Value.ownBlock, Option.some.injEq] at hb
      subst hb
      have := HO.out.2
      rcases this with ⟨q, -⟩ | ⟨g', cap', cur, q, hg, hh, -⟩
      · cases q
      · injection q with q; injection q with q; injection q with q
        subst q
        rw [hh] at hK
        cases hK
    · have := (ownsRow_block HO.out h).1; omega
  case body =>
    rintro l pre x a' W hI ⟨D, rfl, hD, hDl⟩ hSx
    obtain ⟨bm, bx, bt, bl⟩ := Bk.pre_bd want hSx e1 e2 e3
    obtain ⟨vo, ho1, ho2⟩ := hI.out
    have a0 := hI.fn.get (j := 0) rfl
    have m0 := hI.many.get (j := 0) rfl
    have m1 := hI.many.get (j := 1) rfl
    have z0 := hI.many.fz 0
    have z1 := hI.many.fz 1
    have d0 := hD.get (j := 0) rfl
    have d1 := hD.get (j := 1) rfl
    have d2 := hD.get (j := 2) rfl
    have ne1 : D ≠ w.heap.size + 1 + 1 := by omega
    have ne2 : w.heap.size + 1 + 1 ≠ D := by omega
    have HI := Lib.hid hI
    have HO := Lib.hid (And.intro ho1 ho2)
    have HD := Lib.hid hD
    have HST := Lib.hid (Bk.jst_snoc want pre x)
    have HOL := Lib.hid (Bk.jst_out_len want pre)
    clear hI ho1 ho2 hD
    obtain ⟨st, hst⟩ : ∃ st, jst want pre = st := ⟨_, rfl⟩
    rw [hst] at bm m0 m1
    have HSE := Lib.hid hst
    clear hst
    obtain ⟨x0, x1, x2⟩ := x
    obtain ⟨s0, s1, op, acc⟩ := st
    simp only at bm bx bt m0 m1 d0 d1 d2
    gi_wp2_with fail
    refine ⟨trivial, fun h => (by cases h), ?_⟩
    refine (CallsIn.inRound l (callsIn_wide.2 (HWT.out _ _ _))).mono ?_
    rintro e w2 ⟨rfl, rfl⟩
    have k2 : Kept (fun b => b = w.heap.size + 1 + 1) W ((W.setCell ⟨w.heap.size + 1 + 1, 0, none⟩ (.int .i64 (s0 + x1))).setCell ⟨w.heap.size + 1 + 1, 1, none⟩ (.int .i64 (s1 + x2))) := ((Kept.refl _ _).setCell _ _ (by simp)).setCell _ _ (by simp)
    have many2 : RowAt ((W.setCell ⟨w.heap.size + 1 + 1, 0, none⟩ (.int .i64 (s0 + x1))).setCell ⟨w.heap.size + 1 + 1, 1, none⟩ (.int .i64 (s1 + x2))) (w.heap.size + 1 + 1) [.int .i64 (s0 + x1), .int .i64 (s1 + x2)] :=
      (HI.out.many.set (j := 0) (by simp) (.int .i64 (s0 + x1))).set (j := 1) (by simp) (.int .i64 (s1 + x2))
    generalize (W.setCell ⟨w.heap.size + 1 + 1, 0, none⟩ (.int .i64 (s0 + x1))).setCell ⟨w.heap.size + 1 + 1, 1, none⟩ (.int .i64 (s1 + x2)) = W2 at k2 many2 ⊢
    have K2 : Kept (JW w w1 W) W W2 := k2.mono fun b _ q => .inl (by omega)
    have fn2 := HI.out.fn.kept k2 (by omega)
    have opn2 := HI.out.opn.kept k2 (by omega)
    have out2 := HO.out.1.kept k2 (by omega)
    have own2 := ownsRow_kept HO.out.2 k2 (fun b hb _ q => by omega)
    have ci2 : ∀ b, vo.ownBlock = some b → w1.heap.size ≤ b ∧ ¬ NoCells w1.heap.size W b := fun b hb => ⟨(ownsRow_block HO.out.2 hb).1, ownsRow_cells HO.out.2 hb⟩
    have dd0 := (HD.out.kept k2 ne1).get (j := 0) rfl
    have hol := HOL.out
    rw [HSE.out] at opn2 own2 hol
    have hnext := HST.out
    rw [HSE.out] at hnext
    have op0 := opn2.get (j := 0) rfl
    have opz := opn2.fz 0
    have ou0 := out2.get (j := 0) rfl
    have ouz := out2.fz 0
    rcases hr : want (decide (0 < s0 + x1)) (decide (0 < s1 + x2)) with _ | _
    · cases op with
      | none =>
        have hn2 : jst want (pre ++ [(x0, x1, x2)]) = ⟨s0 + x1, s1 + x2, none, acc⟩ := hnext.trans (by simp [jstep, hr])
        have k3 : Kept (fun b => b = w.heap.size + 1 + 1 + 1) W2 (W2.setCell ⟨w.heap.size + 1 + 1 + 1, 0, none⟩ (.bool false)) := (Kept.refl _ _).setCell _ _ (by simp)
        have K3 : Kept (JW w w1 W) W (W2.setCell ⟨w.heap.size + 1 + 1 + 1, 0, none⟩ (.bool false)) := K2.trans k3 (fun b hb q => .inl (by omega))
        have fin := Lib.hid (And.intro (jfin (v := v) (B := B) K3 ⟨by omega, hrow.lt⟩ (fun c hc => by have := HV.out c hc; omega)) (show JI want (.func (.func 37) #[] #[]) w w1 (pre ++ [(x0, x1, x2)]) (W2.setCell ⟨w.heap.size + 1 + 1 + 1, 0, none⟩ (.bool false)) from
          ⟨fn2.kept k3 (by omega), by rw [hn2]; exact many2.kept k3 (by omega), by rw [hn2]; exact opn2.set (j := 0) (by simp) _, by rw [hn2]; exact ⟨vo, out2.kept k3 (by omega), ownsRow_kept own2 k3 (fun b hb _ q => by omega)⟩, jkept HI.out.kept K3 (by omega), Nat.le_trans HI.out.size K3.size⟩))
        clear hnext hn2 k3 K3 K2 k2 fn2 opn2 out2 own2 many2 a0 m0 m1 z0 z1 d0 d1 d2 bm bx bl hol ci2
        gi_wp2
        exact ⟨fin.out.1.1, fin.out.1.2, fin.out.2⟩
      | some f =>
        have hn2 : jst want (pre ++ [(x0, x1, x2)]) = ⟨s0 + x1, s1 + x2, none, acc ++ [(f, x0 - 1)]⟩ := hnext.trans (by simp [jstep, hr])
        have hacc : (JS.mk s0 s1 (some f) acc).out = acc ++ [(f, 0)] := rfl
        rw [hacc, List.length_append, List.length_singleton] at own2
        obtain ⟨g, cg, rfl, hg⟩ := ownsRow_pos own2 (by omega)
        have hcl := ci2 g rfl
        have hgl := (ownsRow_block own2 (b := g) rfl).2
        have hll : acc.length ≤ 1000000 := by have := hol; rw [hacc] at this; simp at this; omega
        have gc : W2.cell? ⟨g, acc.length * 2 + 1, none⟩ = some (.int .i64 0) := by
          rw [own2.cellAt _ (by omega)]
          have := (pc_get (l := acc ++ [(f, 0)]) (j := acc.length) (x := (f, 0)) (by simp)).2
          exact this
        have gz : W2.frozen? ⟨g, acc.length * 2 + 1, none⟩ = false := by
          rcases own2.2 with ⟨q, -⟩ | ⟨g', cap', cur, q, hg, hh, -⟩
          · cases q
          · injection q with q; injection q with q; injection q with q
            subst q
            simp [World.frozen?, hh]
        have own3 := own_set2 own2 (x0 - 1)
        have k3 : Kept (fun b => b = g) W2 (W2.setCell ⟨g, acc.length * 2 + 1, none⟩ (.int .i64 (x0 - 1))) := (Kept.refl _ _).setCell _ _ (by simp)
        have k4 : Kept (fun b => b = w.heap.size + 1 + 1 + 1) (W2.setCell ⟨g, acc.length * 2 + 1, none⟩ (.int .i64 (x0 - 1))) ((W2.setCell ⟨g, acc.length * 2 + 1, none⟩ (.int .i64 (x0 - 1))).setCell ⟨w.heap.size + 1 + 1 + 1, 0, none⟩ (.bool false)) := (Kept.refl _ _).setCell _ _ (by simp)
        have K3 : Kept (JW w w1 W) W ((W2.setCell ⟨g, acc.length * 2 + 1, none⟩ (.int .i64 (x0 - 1))).setCell ⟨w.heap.size + 1 + 1 + 1, 0, none⟩ (.bool false)) := (K2.trans k3 (fun b hb q => .inr (by subst q; exact hcl))).trans k4 (fun b hb q => .inl (by omega))
        have fin := Lib.hid (And.intro (jfin (v := v) (B := B) K3 ⟨by omega, hrow.lt⟩ (fun c hc => by have := HV.out c hc; omega)) (show JI want (.func (.func 37) #[] #[]) w w1 (pre ++ [(x0, x1, x2)]) ((W2.setCell ⟨g, acc.length * 2 + 1, none⟩ (.int .i64 (x0 - 1))).setCell ⟨w.heap.size + 1 + 1 + 1, 0, none⟩ (.bool false)) from
          ⟨(fn2.kept k3 (by omega)).kept k4 (by omega), by rw [hn2]; exact (many2.kept k3 (by omega)).kept k4 (by omega), by rw [hn2]; exact (opn2.kept k3 (by omega)).set (j := 0) (by simp) _, by
            rw [hn2]
            refine ⟨.slice (some ⟨g, 0, none⟩) (acc.length + 1) cg, (out2.kept k3 (by omega)).kept k4 (by omega), ?_⟩
            have := ownsRow_kept own3 k4 (fun b hb _ q => by omega)
            simpa [JS.out] using this, jkept HI.out.kept K3 (by omega), Nat.le_trans HI.out.size K3.size⟩))
        have nx : wrap64 (x0 - 1) = x0 - 1 := IntWalk.wrap64_in _ (by omega)
        have ng1 : g ≠ w.heap.size + 1 + 1 + 1 := by omega
        have ng2 : w.heap.size + 1 + 1 + 1 ≠ g := by omega
        have ng3 : w.heap.size + 1 ≠ g := by omega
        have ng4 : D ≠ g ∨ True := .inr trivial
        clear hnext hn2 k3 k4 K3 K2 k2 fn2 opn2 out2 own2 own3 many2 a0 m0 m1 z0 z1 d0 d1 d2 bm bx bl hol ci2 hacc ng4
        gi_wp2
        exact ⟨fin.out.1.1, fin.out.1.2, fin.out.2⟩
    · cases op with
      | none =>
        have hn2 : jst want (pre ++ [(x0, x1, x2)]) = ⟨s0 + x1, s1 + x2, some x0, acc⟩ := hnext.trans (by simp [jstep, hr])
        have hacc : (JS.mk s0 s1 none acc).out = acc := List.append_nil _
        rw [hacc] at own2 hol
        have hbw : w1.heap.size ≤ W2.heap.size := Nat.le_trans HI.out.size k2.size
        obtain ⟨i, z, hi, hz, hsz, hby, hzs⟩ := el23.info
        obtain ⟨v', w5, hrun, own5, hg5, hor⟩ := run_append_new (P := Try.prog) (W2.alloc (.cells #[.int .i64 x0, .int .i64 0] 42)) w1.heap.size 23 23 42 i z 2 16 Try.underlying23 hi hz hsz hby hzs (by decide) vo acc.length (pc acc) (own2.alloc _) ⟨W2.heap.size, 0, none⟩ 1 1 [.int .i64 x0, .int .i64 0] rfl
          (fun j u hj => by rw [Addr.add_mid, Nat.zero_add, World.cell?_alloc_at _ _ _ _ rfl]; simpa using hj) (by intro u hu; simp at hu; rcases hu with rfl | rfl <;> rfl) (by unfold maxLen; omega) (by omega) (by simp; omega) (by decide)
        obtain ⟨g, cg, rfl⟩ : ∃ g cg, v' = .slice (some ⟨g, 0, none⟩) (acc.length + 1) cg := by
          obtain ⟨g, cap, hv, -⟩ := ownsRow_pos own5 (by omega)
          exact ⟨g, cap, hv⟩
        have k5 : Kept (fun b => vo.ownBlock = some b) W2 w5 := ((Kept.refl _ W2).alloc _).trans (Kept.of_grown hg5) (fun i _ q => q)
        have hob := fun b (hb : vo.ownBlock = some b) => (ownsRow_block own2 hb).1
        have out5 := out2.kept k5 (fun q => by have := hob _ q; omega)
        have opn5 := opn2.kept k5 (fun q => by have := hob _ q; omega)
        have hgb := (ownsRow_block own5 (b := g) rfl).1
        have o5 := out5.get (j := 0) rfl
        have z5 := out5.fz 0
        have p5 := opn5.get (j := 0) rfl
        have q5 := opn5.fz 0
        have k6 : Kept (fun b => b = w.heap.size + 1) w5 (w5.setCell ⟨w.heap.size + 1, 0, none⟩ (.slice (some ⟨g, 0, none⟩) (acc.length + 1) cg)) := (Kept.refl _ _).setCell _ _ (by simp)
        have k7 : Kept (fun b => b = w.heap.size + 1 + 1 + 1) (w5.setCell ⟨w.heap.size + 1, 0, none⟩ (.slice (some ⟨g, 0, none⟩) (acc.length + 1) cg)) ((w5.setCell ⟨w.heap.size + 1, 0, none⟩ (.slice (some ⟨g, 0, none⟩) (acc.length + 1) cg)).setCell ⟨w.heap.size + 1 + 1 + 1, 0, none⟩ (.bool true)) := (Kept.refl _ _).setCell _ _ (by simp)
        have K7 : Kept (JW w w1 W) W ((w5.setCell ⟨w.heap.size + 1, 0, none⟩ (.slice (some ⟨g, 0, none⟩) (acc.length + 1) cg)).setCell ⟨w.heap.size + 1 + 1 + 1, 0, none⟩ (.bool true)) :=
          ((K2.trans k5 (fun b hb q => .inr (ci2 b q))).trans k6 (fun b hb q => .inl (by omega))).trans k7 (fun b hb q => .inl (by omega))
        have fin := Lib.hid (And.intro (jfin (v := v) (B := B) K7 ⟨by omega, hrow.lt⟩ (fun c hc => by have := HV.out c hc; omega)) (show JI want (.func (.func 37) #[] #[]) w w1 (pre ++ [(x0, x1, x2)]) ((w5.setCell ⟨w.heap.size + 1, 0, none⟩ (.slice (some ⟨g, 0, none⟩) (acc.length + 1) cg)).setCell ⟨w.heap.size + 1 + 1 + 1, 0, none⟩ (.bool true)) from
          ⟨((fn2.kept k5 (fun q => by have := hob _ q; omega)).kept k6 (by omega)).kept k7 (by omega), by rw [hn2]; exact ((many2.kept k5 (fun q => by have := hob _ q; omega)).kept k6 (by omega)).kept k7 (by omega), by rw [hn2]; exact (opn5.kept k6 (by omega)).set (j := 0) (by simp) _, by
            rw [hn2]
            refine ⟨.slice (some ⟨g, 0, none⟩) (acc.length + 1) cg, (out5.set (j := 0) (by simp) _).kept k7 (by omega), ?_⟩
            have := ownsRow_kept (ownsRow_kept own5 k6 (fun b hb _ q => by omega)) k7 (fun b hb _ q => by omega)
            simpa [JS.out, pc_append, pc] using this, jkept HI.out.kept K7 (by omega), Nat.le_trans HI.out.size K7.size⟩))
        clear hnext hn2 k5 k6 k7 K7 K2 k2 fn2 opn2 out2 own2 own5 out5 opn5 hob hgb hor hg5 many2 a0 m0 m1 z0 z1 d0 d1 d2 bm bx bl hol ci2 hacc hi hz hsz hby hzs hbw
        simp [go_sem] at hrun
        gi_wp2
        exact ⟨fin.out.1.1, fin.out.1.2, fin.out.2⟩
      | some f =>
        have hn2 : jst want (pre ++ [(x0, x1, x2)]) = ⟨s0 + x1, s1 + x2, some f, acc⟩ := hnext.trans (by simp [jstep, hr])
        have k3 : Kept (fun b => b = w.heap.size + 1 + 1 + 1) W2 (W2.setCell ⟨w.heap.size + 1 + 1 + 1, 0, none⟩ (.bool true)) := (Kept.refl _ _).setCell _ _ (by simp)
        have K3 : Kept (JW w w1 W) W (W2.setCell ⟨w.heap.size + 1 + 1 + 1, 0, none⟩ (.bool true)) := K2.trans k3 (fun b hb q => .inl (by omega))
        have fin := Lib.hid (And.intro (jfin (v := v) (B := B) K3 ⟨by omega, hrow.lt⟩ (fun c hc => by have := HV.out c hc; omega)) (show JI want (.func (.func 37) #[] #[]) w w1 (pre ++ [(x0, x1, x2)]) (W2.setCell ⟨w.heap.size + 1 + 1 + 1, 0, none⟩ (.bool true)) from
          ⟨fn2.kept k3 (by omega), by rw [hn2]; exact many2.kept k3 (by omega), by rw [hn2]; exact opn2.set (j := 0) (by simp) _, by rw [hn2]; exact ⟨vo, out2.kept k3 (by omega), ownsRow_kept own2 k3 (fun b hb _ q => by omega)⟩, jkept HI.out.kept K3 (by omega), Nat.le_trans HI.out.size K3.size⟩))
        clear hnext hn2 k3 K3 K2 k2 fn2 opn2 out2 own2 many2 a0 m0 m1 z0 z1 d0 d1 d2 bm bx bl hol ci2
        gi_wp2
        exact ⟨fin.out.1.1, fin.out.1.2, fin.out.2⟩
set_option maxRecDepth 100000 in
set_option maxHeartbeats 2000000 in
theorem join_in38 (n : Nat) (hn : 3 ≤ n) (want : Bool → Bool → Bool)
    (HWT : Hid (∀ x y w, Calls Try.prog 38 #[.bool x, .bool y] w fun e w' => e = .returned (.bool (want x y)) ∧ w = w'))
    {w : World} {va vb : Value} {a b : List Sp} (ha : Prs w va a) (hb : Prs w vb b) (hla : a.length ≤ 100000) (hlb : b.length ≤ 100000) (ga : ∀ s ∈ a, (0 ≤ s.1 ∧ s.1 ≤ s.2) ∧ s.2 ≤ 253402300799) (gb : ∀ s ∈ b, (0 ≤ s.1 ∧ s.1 ≤ s.2) ∧ s.2 ≤ 253402300799) :
    CallsIn Fence.wide n Try.prog 52 #[va, vb, .func (.func 38) #[] #[]] w (JoinPost want a b w) := by
  have h1 : 1 ≤ n := by omega
  have hbord : ∀ W, Kept (fun _ => False) w W → Calls Try.prog 57 #[va, vb] W (BordersPost a b W) := fun W K => borders_c (ha.same K) (hb.same K) hla hlb (fun s hs => by have := ga s hs; omega) (fun s hs => by have := gb s hs; omega)
  have HBD := Lib.hid hbord
  have hev : ∀ s : List Ev, s.Perm (evs a b) → s.length ≤ 1000000 ∧ (∀ e ∈ s, (-1 ≤ e.2.1 ∧ e.2.1 ≤ 1) ∧ (-1 ≤ e.2.2 ∧ e.2.2 ≤ 1)) ∧ (∀ e ∈ s, 0 ≤ e.1 ∧ e.1 ≤ 253402300800) := fun s hp => by
    refine ⟨by rw [hp.length_eq, evs, List.length_append, ev0_len, ev1_len]; omega, fun e he => ?_, fun e he => ?_⟩
    · have he := hp.mem_iff.1 he
      simp only [evs, ev0, ev1, List.mem_append, List.mem_flatMap, List.mem_cons, List.not_mem_nil, or_false] at he
      rcases he with ⟨s, hs, rfl | rfl⟩ | ⟨s, hs, rfl | rfl⟩ <;> simp
    · have he := hp.mem_iff.1 he
      simp only [evs, ev0, ev1, List.mem_append, List.mem_flatMap, List.mem_cons, List.not_mem_nil, or_false] at he
      rcases he with ⟨s, hs, rfl | rfl⟩ | ⟨s, hs, rfl | rfl⟩ <;> (first | have := ga s hs | have := gb s hs) <;> simp only <;> omega
  have HEV := Lib.hid hev
  obtain ⟨aa, ca, rfl⟩ := ha.len
  obtain ⟨ab, cb, rfl⟩ := hb.len
  clear hbord hev ha hb hla hlb ga gb
  refine callsIn_of_wp_marks Try.func52 rfl trivial ?_ rfl
  simp only [Try.ntmps52, List.size_toArray, List.length_cons, List.length_nil, Nat.reduceAdd, Nat.reduceSub, Array.replicate_succ, Array.replicate_zero, List.push_toArray, List.append_toArray, List.nil_append, List.cons_append]
  gi_wp2_with fail
  refine ⟨trivial, ?_⟩
  have r0 := RowAt.new w 56 #[.func (.func 38) #[] #[]]
  have r1 := RowAt.new (w.alloc (.cells #[.func (.func 38) #[] #[]] 56)) 23 #[.slice none 0 0]
  have r2 := RowAt.new ((w.alloc (.cells #[.func (.func 38) #[] #[]] 56)).alloc (.cells #[.slice none 0 0] 23)) 71 #[.int .i64 0, .int .i64 0]
  have r3 := RowAt.new (((w.alloc (.cells #[.func (.func 38) #[] #[]] 56)).alloc (.cells #[.slice none 0 0] 23)).alloc (.cells #[.int .i64 0, .int .i64 0] 71)) 4 #[.bool false]
  simp only [World.size_alloc] at r1 r2 r3
  have k0 : Kept (fun _ => False) w ((((w.alloc (.cells #[.func (.func 38) #[] #[]] 56)).alloc (.cells #[.slice none 0 0] 23)).alloc (.cells #[.int .i64 0, .int .i64 0] 71)).alloc (.cells #[.bool false] 4)) := ((((Kept.refl _ _).alloc _).alloc _).alloc _).alloc _
  refine (callsIn_wide.2 (HBD.out _ k0)).mono ?_
  rintro e w1 ⟨B, v, s, rfl, hB, hrow, hp, hs, ht, hvo, K1⟩
  obtain ⟨e1, e2, e3⟩ := HEV.out s hp
  simp only [World.size_alloc] at hB hvo
  have hji : JI want (.func (.func 38) #[] #[]) w w1 [] w1 :=
    ⟨((((r0.same ((Kept.refl _ _).alloc _)).same ((Kept.refl _ _).alloc _)).same ((Kept.refl _ _).alloc _)).same K1), ((r2.same ((Kept.refl _ _).alloc _)).same K1), r3.same K1,
      ⟨.slice none 0 0, (((r1.same ((Kept.refl _ _).alloc _)).same ((Kept.refl _ _).alloc _)).same K1), ⟨rfl, .inl ⟨rfl, rfl⟩⟩⟩, k0.trans K1 (fun _ _ h => h), Nat.le_refl _⟩
  have hlt : w.heap.size + 1 + 1 + 1 < w1.heap.size := by have := hrow.lt; omega
  have HJ := Lib.hid hji
  have HV := Lib.hid hvo
  have HS := Lib.hid (And.intro hp hs)
  clear r0 r1 r2 r3 k0 hji hvo hp hs K1
  gi_wp2_with fail
  refine wpIn_rangeFunc_W rfl h1 (gf := 61) (lb := #[.pointer (some ⟨B, 0, none⟩)]) rfl trivial (enters_of Try.func61 (by kernel_rfl) rfl)
    (gen_seq (n - 1) (by omega) B v s e1 e2 (fun q => (HV.out B q).2.1 rfl) w1 hrow ht) (fun b q => by subst q; exact hrow.lt) (fun h k => h.trans k (fun _ _ q => q))
    (fun W l o hl => kept_putObj W l o (fun _ => ⟨fun q => by have := hrow.lt; omega, fun q => by have := (HV.out _ q).2.2; omega⟩)) (fun _ => rfl)
    (JI want (.func (.func 38) #[] #[]) w w1) (fun pre A A' h K => h.move K (fun b q => by
      rcases q with rfl | q
      · exact ⟨by omega, fun q => by have := hrow.lt; omega⟩
      · exact ⟨by have := q.1; omega, fun _ => q⟩)) HJ.out
    (fun x a' W => ∃ D, a' = { tmps := #[.slice aa a.length ca, .slice ab b.length cb, .func (.func 38) #[] #[], undef, undef, .pointer (some ⟨w.heap.size, 0, none⟩), .slice none 0 0, .pointer (some ⟨w.heap.size + 1, 0, none⟩), .pointer (some ⟨w.heap.size + 1 + 1, 0, none⟩), .pointer (some ⟨w.heap.size + 1 + 1 + 1, 0, none⟩), .pointer (some ⟨D, 0, none⟩), undef, .slice aa a.length ca, .slice ab b.length cb, .func (.func 61) #[] #[.pointer (some ⟨B, 0, none⟩)], .agg #[.int .i64 x.1, .int .i64 x.2.1, .int .i64 x.2.2], undef, undef, undef, undef, undef, undef, undef, undef, undef, undef, undef, undef, undef, undef, undef, undef, undef, undef, undef, undef, undef, undef, undef, undef, undef, undef, undef, undef, undef, undef, undef, undef, undef, undef, undef, undef, undef, undef, undef, undef, undef, undef, undef, undef, undef, undef, undef, undef, undef, undef, undef], defers := [] } ∧ RowAt W D [.int .i64 x.1, .int .i64 x.2.1, .int .i64 x.2.2] ∧ w1.heap.size ≤ D)
    (fun x a' A A' h K => by
      obtain ⟨D, h1, h2, h3⟩ := h
      exact ⟨D, h1, h2.kept K (fun q => h2.cells q), h3⟩) ?assign ?body ?done
  case assign =>
    intro l pre x W K hI hK
    have HI := Lib.hid hI
    clear hI
    gi_wp2
    exact hK _ _ (keepsFrom_of_kept ((Kept.refl (fun _ => False) W).alloc _) (fun _ h => h.elim)) ((Kept.refl _ W).alloc _) (HI.out.move ((Kept.refl (fun _ => False) W).alloc _) (fun _ h => h.elim)) ⟨_, rfl, RowAt.new _ _ _, HI.out.size⟩
  case done =>
    rintro D ys W hD rfl hI hK
    obtain ⟨vo, ho1, ho2⟩ := hI.out
    have hc := ho1.get (j := 0) rfl
    have HI := Lib.hid hI
    have HO := Lib.hid ho2
    clear hI ho1 ho2
    gi_wp2
    refine ⟨by simp, .inl ⟨_, _, rfl, run_takeDeferred hK, ?_⟩⟩
    refine ⟨_, results_tmp rfl _ _ _, ?_⟩
    have hpr : Prs W vo (Bk.jn want 0 0 none (grp s)) := by
      rw [← Bk.jst_jn]
      exact Prs.of_own HO.out
    have kD : Kept (fun b => b = D) W (W.putObj D (.deferred none)) := kept_putObj (S := fun b => b = D) W D _ (fun _ => rfl)
    refine ⟨vo, s, rfl, HS.out.1, HS.out.2, hpr.kept kD (fun b hb hp q => ?_), fun c h => ?_, HI.out.kept.trans kD (fun i hi h => by omega)⟩
    · subst q
      obtain ⟨g, cap, e, -⟩ := ownsRow_pos HO.out (by rw [Bk.jst_jn]; exact hp)
      subst e
      simp only [Value.ownBlock, Option.some.injEq] at hb
      subst hb
      have := HO.out.2
      rcases this with ⟨q, -⟩ | ⟨g', cap', cur, q, hg, hh, -⟩
      · cases q
      · injection q with q; injection q with q; injection q with q
        subst q
        rw [hh] at hK
        cases hK
    · have := (ownsRow_block HO.out h).1; omega
  case body =>
    rintro l pre x a' W hI ⟨D, rfl, hD, hDl⟩ hSx
    obtain ⟨bm, bx, bt, bl⟩ := Bk.pre_bd want hSx e1 e2 e3
    obtain ⟨vo, ho1, ho2⟩ := hI.out
    have a0 := hI.fn.get (j := 0) rfl
    have m0 := hI.many.get (j := 0) rfl
    have m1 := hI.many.get (j := 1) rfl
    have z0 := hI.many.fz 0
    have z1 := hI.many.fz 1
    have d0 := hD.get (j := 0) rfl
    have d1 := hD.get (j := 1) rfl
    have d2 := hD.get (j := 2) rfl
    have ne1 : D ≠ w.heap.size + 1 + 1 := by omega
    have ne2 : w.heap.size + 1 + 1 ≠ D := by omega
    have HI := Lib.hid hI
    have HO := Lib.hid (And.intro ho1 ho2)
    have HD := Lib.hid hD
    have HST := Lib.hid (Bk.jst_snoc want pre x)
    have HOL := Lib.hid (Bk.jst_out_len want pre)
    clear hI ho1 ho2 hD
    obtain ⟨st, hst⟩ : ∃ st, jst want pre = st := ⟨_, rfl⟩
    rw [hst] at bm m0 m1
    have HSE := Lib.hid hst
    clear hst
    obtain ⟨x0, x1, x2⟩ := x
    obtain ⟨s0, s1, op, acc⟩ := st
    simp only at bm bx bt m0 m1 d0 d1 d2
    gi_wp2_with fail
    refine ⟨trivial, fun h => (by cases h), ?_⟩
    refine (CallsIn.inRound l (callsIn_wide.2 (HWT.out _ _ _))).mono ?_
    rintro e w2 ⟨rfl, rfl⟩
    have k2 : Kept (fun b => b = w.heap.size + 1 + 1) W ((W.setCell ⟨w.heap.size + 1 + 1, 0, none⟩ (.int .i64 (s0 + x1))).setCell ⟨w.heap.size + 1 + 1, 1, none⟩ (.int .i64 (s1 + x2))) := ((Kept.refl _ _).setCell _ _ (by simp)).setCell _ _ (by simp)
    have many2 : RowAt ((W.setCell ⟨w.heap.size + 1 + 1, 0, none⟩ (.int .i64 (s0 + x1))).setCell ⟨w.heap.size + 1 + 1, 1, none⟩ (.int .i64 (s1 + x2))) (w.heap.size + 1 + 1) [.int .i64 (s0 + x1), .int .i64 (s1 + x2)] :=
      (HI.out.many.set (j := 0) (by simp) (.int .i64 (s0 + x1))).set (j := 1) (by simp) (.int .i64 (s1 + x2))
    generalize (W.setCell ⟨w.heap.size + 1 + 1, 0, none⟩ (.int .i64 (s0 + x1))).setCell ⟨w.heap.size + 1 + 1, 1, none⟩ (.int .i64 (s1 + x2)) = W2 at k2 many2 ⊢
    have K2 : Kept (JW w w1 W) W W2 := k2.mono fun b _ q => .inl (by omega)
    have fn2 := HI.out.fn.kept k2 (by omega)
    have opn2 := HI.out.opn.kept k2 (by omega)
    have out2 := HO.out.1.kept k2 (by omega)
    have own2 := ownsRow_kept HO.out.2 k2 (fun b hb _ q => by omega)
    have ci2 : ∀ b, vo.ownBlock = some b → w1.heap.size ≤ b ∧ ¬ NoCells w1.heap.size W b := fun b hb => ⟨(ownsRow_block HO.out.2 hb).1, ownsRow_cells HO.out.2 hb⟩
    have dd0 := (HD.out.kept k2 ne1).get (j := 0) rfl
    have hol := HOL.out
    rw [HSE.out] at opn2 own2 hol
    have hnext := HST.out
    rw [HSE.out] at hnext
    have op0 := opn2.get (j := 0) rfl
    have opz := opn2.fz 0
    have ou0 := out2.get (j := 0) rfl
    have ouz := out2.fz 0
    rcases hr : want (decide (0 < s0 + x1)) (decide (0 < s1 + x2)) with _ | _
    · cases op with
      | none =>
        have hn2 : jst want (pre ++ [(x0, x1, x2)]) = ⟨s0 + x1, s1 + x2, none, acc⟩ := hnext.trans (by simp [jstep, hr])
        have k3 : Kept (fun b => b = w.heap.size + 1 + 1 + 1) W2 (W2.setCell ⟨w.heap.size + 1 + 1 + 1, 0, none⟩ (.bool false)) := (Kept.refl _ _).setCell _ _ (by simp)
        have K3 : Kept (JW w w1 W) W (W2.setCell ⟨w.heap.size + 1 + 1 + 1, 0, none⟩ (.bool false)) := K2.trans k3 (fun b hb q => .inl (by omega))
        have fin := Lib.hid (And.intro (jfin (v := v) (B := B) K3 ⟨by omega, hrow.lt⟩ (fun c hc => by have := HV.out c hc; omega)) (show JI want (.func (.func 38) #[] #[]) w w1 (pre ++ [(x0, x1, x2)]) (W2.setCell ⟨w.heap.size + 1 + 1 + 1, 0, none⟩ (.bool false)) from
          ⟨fn2.kept k3 (by omega), by rw [hn2]; exact many2.kept k3 (by omega), by rw [hn2]; exact opn2.set (j := 0) (by simp) _, by rw [hn2]; exact ⟨vo, out2.kept k3 (by omega), ownsRow_kept own2 k3 (fun b hb _ q => by omega)⟩, jkept HI.out.kept K3 (by omega), Nat.le_trans HI.out.size K3.size⟩))
        clear hnext hn2 k3 K3 K2 k2 fn2 opn2 out2 own2 many2 a0 m0 m1 z0 z1 d0 d1 d2 bm bx bl hol ci2
        gi_wp2
        exact ⟨fin.out.1.1, fin.out.1.2, fin.out.2⟩
      | some f =>
        have hn2 : jst want (pre ++ [(x0, x1, x2)]) = ⟨s0 + x1, s1 + x2, none, acc ++ [(f, x0 - 1)]⟩ := hnext.trans (by simp [jstep, hr])
        have hacc : (JS.mk s0 s1 (some f) acc).out = acc ++ [(f, 0)] := rfl
        rw [hacc, List.length_append, List.length_singleton] at own2
        obtain ⟨g, cg, rfl, hg⟩ := ownsRow_pos own2 (by omega)
        have hcl := ci2 g rfl
        have hgl := (ownsRow_block own2 (b := g) rfl).2
        have hll : acc.length ≤ 1000000 := by have := hol; rw [hacc] at this; simp at this; omega
        have gc : W2.cell? ⟨g, acc.length * 2 + 1, none⟩ = some (.int .i64 0) := by
          rw [own2.cellAt _ (by omega)]
          have := (pc_get (l := acc ++ [(f, 0)]) (j := acc.length) (x := (f, 0)) (by simp)).2
          exact this
        have gz : W2.frozen? ⟨g, acc.length * 2 + 1, none⟩ = false := by
          rcases own2.2 with ⟨q, -⟩ | ⟨g', cap', cur, q, hg, hh, -⟩
          · cases q
          · injection q with q; injection q with q; injection q with q
            subst q
            simp [World.frozen?, hh]
        have own3 := own_set2 own2 (x0 - 1)
        have k3 : Kept (fun b => b = g) W2 (W2.setCell ⟨g, acc.length * 2 + 1, none⟩ (.int .i64 (x0 - 1))) := (Kept.refl _ _).setCell _ _ (by simp)
        have k4 : Kept (fun b => b = w.heap.size + 1 + 1 + 1) (W2.setCell ⟨g, acc.length * 2 + 1, none⟩ (.int .i64 (x0 - 1))) ((W2.setCell ⟨g, acc.length * 2 + 1, none⟩ (.int .i64 (x0 - 1))).setCell ⟨w.heap.size + 1 + 1 + 1, 0, none⟩ (.bool false)) := (Kept.refl _ _).setCell _ _ (by simp)
        have K3 : Kept (JW w w1 W) W ((W2.setCell ⟨g, acc.length * 2 + 1, none⟩ (.int .i64 (x0 - 1))).setCell ⟨w.heap.size + 1 + 1 + 1, 0, none⟩ (.bool false)) := (K2.trans k3 (fun b hb q => .inr (by subst q; exact hcl))).trans k4 (fun b hb q => .inl (by omega))
        have fin := Lib.hid (And.intro (jfin (v := v) (B := B) K3 ⟨by omega, hrow.lt⟩ (fun c hc => by have := HV.out c hc; omega)) (show JI want (.func (.func 38) #[] #[]) w w1 (pre ++ [(x0, x1, x2)]) ((W2.setCell ⟨g, acc.length * 2 + 1, none⟩ (.int .i64 (x0 - 1))).setCell ⟨w.heap.size + 1 + 1 + 1, 0, none⟩ (.bool false)) from
          ⟨(fn2.kept k3 (by omega)).kept k4 (by omega), by rw [hn2]; exact (many2.kept k3 (by omega)).kept k4 (by omega), by rw [hn2]; exact (opn2.kept k3 (by omega)).set (j := 0) (by simp) _, by
            rw [hn2]
            refine ⟨.slice (some ⟨g, 0, none⟩) (acc.length + 1) cg, (out2.kept k3 (by omega)).kept k4 (by omega), ?_⟩
            have := ownsRow_kept own3 k4 (fun b hb _ q => by omega)
            simpa [JS.out] using this, jkept HI.out.kept K3 (by omega), Nat.le_trans HI.out.size K3.size⟩))
        have nx : wrap64 (x0 - 1) = x0 - 1 := IntWalk.wrap64_in _ (by omega)
        have ng1 : g ≠ w.heap.size + 1 + 1 + 1 := by omega
        have ng2 : w.heap.size + 1 + 1 + 1 ≠ g := by omega
        have ng3 : w.heap.size + 1 ≠ g := by omega
        have ng4 : D ≠ g ∨ True := .inr trivial
        clear hnext hn2 k3 k4 K3 K2 k2 fn2 opn2 out2 own2 own3 many2 a0 m0 m1 z0 z1 d0 d1 d2 bm bx bl hol ci2 hacc ng4
        gi_wp2
        exact ⟨fin.out.1.1, fin.out.1.2, fin.out.2⟩
    · cases op with
      | none =>
        have hn2 : jst want (pre ++ [(x0, x1, x2)]) = ⟨s0 + x1, s1 + x2, some x0, acc⟩ := hnext.trans (by simp [jstep, hr])
        have hacc : (JS.mk s0 s1 none acc).out = acc := List.append_nil _
        rw [hacc] at own2 hol
        have hbw : w1.heap.size ≤ W2.heap.size := Nat.le_trans HI.out.size k2.size
        obtain ⟨i, z, hi, hz, hsz, hby, hzs⟩ := el23.info
        obtain ⟨v', w5, hrun, own5, hg5, hor⟩ := run_append_new (P := Try.prog) (W2.alloc (.cells #[.int .i64 x0, .int .i64 0] 42)) w1.heap.size 23 23 42 i z 2 16 Try.underlying23 hi hz hsz hby hzs (by decide) vo acc.length (pc acc) (own2.alloc _) ⟨W2.heap.size, 0, none⟩ 1 1 [.int .i64 x0, .int .i64 0] rfl
          (fun j u hj => by rw [Addr.add_mid, Nat.zero_add, World.cell?_alloc_at _ _ _ _ rfl]; simpa using hj) (by intro u hu; simp at hu; rcases hu with rfl | rfl <;> rfl) (by unfold maxLen; omega) (by omega) (by simp; omega) (by decide)
        obtain ⟨g, cg, rfl⟩ : ∃ g cg, v' = .slice (some ⟨g, 0, none⟩) (acc.length + 1) cg := by
          obtain ⟨g, cap, hv, -⟩ := ownsRow_pos own5 (by omega)
          exact ⟨g, cap, hv⟩
        have k5 : Kept (fun b => vo.ownBlock = some b) W2 w5 := ((Kept.refl _ W2).alloc _).trans (Kept.of_grown hg5) (fun i _ q => q)
        have hob := fun b (hb : vo.ownBlock = some b) => (ownsRow_block own2 hb).1
        have out5 := out2.kept k5 (fun q => by have := hob _ q; omega)
        have opn5 := opn2.kept k5 (fun q => by have := hob _ q; omega)
        have hgb := (ownsRow_block own5 (b := g) rfl).1
        have o5 := out5.get (j := 0) rfl
        have z5 := out5.fz 0
        have p5 := opn5.get (j := 0) rfl
        have q5 := opn5.fz 0
        have k6 : Kept (fun b => b = w.heap.size + 1) w5 (w5.setCell ⟨w.heap.size + 1, 0, none⟩ (.slice (some ⟨g, 0, none⟩) (acc.length + 1) cg)) := (Kept.refl _ _).setCell _ _ (by simp)
        have k7 : Kept (fun b => b = w.heap.size + 1 + 1 + 1) (w5.setCell ⟨w.heap.size + 1, 0, none⟩ (.slice (some ⟨g, 0, none⟩) (acc.length + 1) cg)) ((w5.setCell ⟨w.heap.size + 1, 0, none⟩ (.slice (some ⟨g, 0, none⟩) (acc.length + 1) cg)).setCell ⟨w.heap.size + 1 + 1 + 1, 0, none⟩ (.bool true)) := (Kept.refl _ _).setCell _ _ (by simp)
        have K7 : Kept (JW w w1 W) W ((w5.setCell ⟨w.heap.size + 1, 0, none⟩ (.slice (some ⟨g, 0, none⟩) (acc.length + 1) cg)).setCell ⟨w.heap.size + 1 + 1 + 1, 0, none⟩ (.bool true)) :=
          ((K2.trans k5 (fun b hb q => .inr (ci2 b q))).trans k6 (fun b hb q => .inl (by omega))).trans k7 (fun b hb q => .inl (by omega))
        have fin := Lib.hid (And.intro (jfin (v := v) (B := B) K7 ⟨by omega, hrow.lt⟩ (fun c hc => by have := HV.out c hc; omega)) (show JI want (.func (.func 38) #[] #[]) w w1 (pre ++ [(x0, x1, x2)]) ((w5.setCell ⟨w.heap.size + 1, 0, none⟩ (.slice (some ⟨g, 0, none⟩) (acc.length + 1) cg)).setCell ⟨w.heap.size + 1 + 1 + 1, 0, none⟩ (.bool true)) from
          ⟨((fn2.kept k5 (fun q => by have := hob _ q; omega)).kept k6 (by omega)).kept k7 (by omega), by rw [hn2]; exact ((many2.kept k5 (fun q => by have := hob _ q; omega)).kept k6 (by omega)).kept k7 (by omega), by rw [hn2]; exact (opn5.kept k6 (by omega)).set (j := 0) (by simp) _, by
            rw [hn2]
            refine ⟨.slice (some ⟨g, 0, none⟩) (acc.length + 1) cg, (out5.set (j := 0) (by simp) _).kept k7 (by omega), ?_⟩
            have := ownsRow_kept (ownsRow_kept own5 k6 (fun b hb _ q => by omega)) k7 (fun b hb _ q => by omega)
            simpa [JS.out, pc_append, pc] using this, jkept HI.out.kept K7 (by omega), Nat.le_trans HI.out.size K7.size⟩))
        clear hnext hn2 k5 k6 k7 K7 K2 k2 fn2 opn2 out2 own2 own5 out5 opn5 hob hgb hor hg5 many2 a0 m0 m1 z0 z1 d0 d1 d2 bm bx bl hol ci2 hacc hi hz hsz hby hzs hbw
        simp [go_sem] at hrun
        gi_wp2
        exact ⟨fin.out.1.1, fin.out.1.2, fin.out.2⟩
      | some f =>
        have hn2 : jst want (pre ++ [(x0, x1, x2)]) = ⟨s0 + x1, s1 + x2, some f, acc⟩ := hnext.trans (by simp [jstep, hr])
        have k3 : Kept (fun b => b = w.heap.size + 1 + 1 + 1) W2 (W2.setCell ⟨w.heap.size + 1 + 1 + 1, 0, none⟩ (.bool true)) := (Kept.refl _ _).setCell _ _ (by simp)
        have K3 : Kept (JW w w1 W) W (W2.setCell ⟨w.heap.size + 1 + 1 + 1, 0, none⟩ (.bool true)) := K2.trans k3 (fun b hb q => .inl (by omega))
        have fin := Lib.hid (And.intro (jfin (v := v) (B := B) K3 ⟨by omega, hrow.lt⟩ (fun c hc => by have := HV.out c hc; omega)) (show JI want (.func (.func 38) #[] #[]) w w1 (pre ++ [(x0, x1, x2)]) (W2.setCell ⟨w.heap.size + 1 + 1 + 1, 0, none⟩ (.bool true)) from
          ⟨fn2.kept k3 (by omega), by rw [hn2]; exact many2.kept k3 (by omega), by rw [hn2]; exact opn2.set (j := 0) (by simp) _, by rw [hn2]; exact ⟨vo, out2.kept k3 (by omega), ownsRow_kept own2 k3 (fun b hb _ q => by omega)⟩, jkept HI.out.kept K3 (by omega), Nat.le_trans HI.out.size K3.size⟩))
        clear hnext hn2 k3 K3 K2 k2 fn2 opn2 out2 own2 many2 a0 m0 m1 z0 z1 d0 d1 d2 bm bx bl hol ci2
        gi_wp2
        exact ⟨fin.out.1.1, fin.out.1.2, fin.out.2⟩
end Go.Proofs.Ytaedijppbghnaaa

/- TrLaun: texts for the statements of this seat: contracts of functions, walks, plain laws. Conditions: none. -/
import Derived.Test.YtfhlllmicobafaaTrSome
import Derived.Test.YtfhlllmicobafaaGeAll
set_option linter.all false
/- Launches. -/
namespace Go.Proofs.Ytfhlllmicobafaa
open Go.RowKit Go.Shelf
open Tr (Ev ofB)
attribute [local go_sem] Oper.semAt_some

theorem Try.info2 : (Try.prog.info? 2).map (fun i => (i.zero, i.size, i.bytes)) = some (some (.int .i64 0), 1, 8) := by kernel_rfl
theorem el38 : ElemOk Try.prog 38 2 1 8 := .mk' Try.underlying38 Try.info2 rfl (by decide)
theorem RowAt.cellsB {w : World} {b : Nat} {v : Value} {vs : List Value} (h : RowAt w b (v :: vs)) {B : Nat} : ¬ NoCells B w b := by
  rintro ⟨-, o, ho, hc⟩
  have h0 := h.get (j := 0) rfl
  unfold World.cell? at h0
  rw [ho] at h0
  cases o <;> simp_all [Obj.isCells]
/-- What a loop has collected, in a box. -/
structure OutI (A : Nat) (w2 : World) (out : List Int) (W : World) : Prop where
  out : ∃ vo, RowAt W A [vo] ∧ W.ownsRow w2.heap.size 2 1 vo out.length (out.map (Value.int .i64))
  kept : Kept (fun b => b = A) w2 W
  size : w2.heap.size ≤ W.heap.size
theorem OutI.move {A : Nat} {w2 : World} {out : List Int} {W W' : World} {S : Nat → Prop} (h : OutI A w2 out W) (K : Kept S W W') (hS : ∀ b, S b → b < W.heap.size → w2.heap.size ≤ b ∧ NoCells w2.heap.size W b) : OutI A w2 out W' where
  out := by
    obtain ⟨vo, h1, h2⟩ := h.out
    exact ⟨vo, h1.kept K (fun q => h1.cellsB (hS _ q h1.lt).2), ownsRow_kept h2 K (fun b _ hb q => ownsRow_cells h2 hb (hS b q (ownsRow_block h2 hb).2).2)⟩
  kept := h.kept.trans K (fun i hi q => by have := (hS i q (Nat.lt_of_lt_of_le hi h.size)).1; omega)
  size := Nat.le_trans h.size K.size
def OneAt (D : Nat) (x : Ev) (w2 : World) (W : World) : Prop := RowAt W D (evC x) ∧ w2.heap.size ≤ D
/-- The slice v, new, of the numbers xs. -/
abbrev IRO (w wk : World) (v : Value) (xs : List Int) : Prop := RO (fun x : Int => [Value.int .i64 x]) 1 2 w wk v xs
def LaunPost (w : World) (c : Int) (xs : List Int) (r : Ending) (w' : World) : Prop := ∃ v, r = .returned (.tuple #[v, .int .i64 c]) ∧ IRO w w' v (if c = 0 then xs else [])
theorem launched_is (b : Bool) (e : Ev) (w : World) (h : (e.kind == 1) = b) : Calls Try.prog 54 #[evV e] w fun r w' => r = .returned (.bool b) ∧ Kept (fun _ => False) w w' := h ▸ launched_c e w
set_option maxRecDepth 100000 in
set_option maxHeartbeats 4000000 in
theorem laun_in (n : Nat) (hn : 4 ≤ n) {w : World} {v : Value} {l : List Ev} (h : Evs w v l) (hw : EvW l) (hl : l.length ≤ 100000) (job : Int) :
    CallsIn Fence.wide n Try.prog 24 #[v, .int .i64 job] w (LaunPost w (wrongE l job (-1) 63) ((picks (fun e => e.kind == 1) job l l.length).map fun p => p.2.t)) := by
  have h1 : 1 ≤ n := by omega
  have HC := Lib.hid (checked_c h hw (by omega) job (-1) 63)
  have HQ := Lib.hid h
  obtain ⟨aa, cap, rfl⟩ := h.len
  clear h hw
  refine callsIn_of_wp_marks Try.func24 rfl trivial ?_ rfl
  simp only [Try.ntmps24, List.size_toArray, List.length_cons, List.length_nil, Nat.reduceAdd, Nat.reduceSub, Array.replicate_succ, Array.replicate_zero, List.push_toArray, List.append_toArray, List.nil_append, List.cons_append]
  obtain ⟨c, hc⟩ : ∃ c, wrongE l job (-1) 63 = c := ⟨_, rfl⟩
  rw [hc] at HC ⊢
  gi_wp2_with fail
  refine ⟨trivial, ?_⟩
  refine (callsIn_wide.2 HC.out).mono ?_
  rintro e w1 ⟨rfl, K1⟩
  have HK1 := Lib.hid K1
  clear K1 hc
  by_cases hc0 : c = 0
  · subst hc0
    have r1 := RowAt.new w1 38 #[.slice none 0 0]
    have kA : Kept (fun _ => False) w1 (w1.alloc (.cells #[.slice none 0 0] 38)) := (Kept.refl _ _).alloc _
    gi_wp2_with fail
    refine ⟨trivial, ?_⟩
    refine (callsIn_wide.2 (some_c aa l.length cap l job 54 #[] _ ((HQ.out.same HK1.out).same kA))).mono ?_
    rintro e w2 ⟨B, B2, B3, rfl, hB, hbx, K2⟩
    simp only [World.size_alloc] at hB
    have HA := Lib.hid (r1.same K2)
    have HKw := Lib.hid ((HK1.out.trans kA (fun _ _ h => h)).trans K2 (fun _ _ h => h))
    have HBX := Lib.hid hbx
    obtain ⟨A, hA⟩ : ∃ A, w1.heap.size = A := ⟨_, rfl⟩
    rw [hA] at HA hB ⊢
    obtain ⟨hB1, hB2, hB3⟩ := hB
    have hBl := hbx.bl.lt
    have hBj := hbx.bj.lt
    have hBi := hbx.bi.lt
    have hAl := HA.out.lt
    have hvb : ∀ b, (Value.slice aa l.length cap).ownBlock = some b → 0 < l.length → b < A := fun b hb hp => by have := ((HQ.out.same HK1.out).block hb hp); omega
    have HAW : Hid (w.heap.size ≤ A) := Lib.hid (by rw [← hA]; exact HK1.out.size)
    have HVB := Lib.hid hvb
    clear r1 kA K2 hbx hA hvb
    have HI0 : Hid (OutI A w2 [] w2) := Lib.hid ⟨⟨_, HA.out, ⟨rfl, .inl ⟨rfl, rfl⟩⟩⟩, Kept.refl _ _, Nat.le_refl _⟩
    have HIS : Hid (∀ b e W, (e.kind == 1) = b → Boxes W B B2 B3 (.slice aa l.length cap) job (.func (.func 54) #[] #[]) l → Calls Try.prog 54 #[evV e] W fun r W' => r = .returned (.bool b) ∧ Kept (fun _ => False) W W') := Lib.hid fun b e W hb _ => launched_is b e W hb
    gi_wp2_with fail
    refine wpIn_rangeFunc_W rfl h1 (gf := 68) (lb := #[.pointer (some ⟨B, 0, none⟩), .pointer (some ⟨B2, 0, none⟩), .pointer (some ⟨B3, 0, none⟩)]) rfl trivial (enters_of Try.func68 (by kernel_rfl) rfl)
      (some_seq54 (n - 1) (by omega) B B2 B3 _ job l (by omega) (fun e => e.kind == 1) HIS w2 HBX.out) (fun b q => q.elim) (fun h k => h.trans k (fun _ _ q => q))
      (fun W lo o hlo => kept_putObj W lo o (fun hlo2 => ⟨by omega, by omega, by omega, fun q => by
        rcases Nat.eq_zero_or_pos l.length with h0 | h0
        · exact List.eq_nil_of_length_eq_zero h0
        · have := HVB.out _ q h0; omega⟩)) (fun _ => rfl)
      (fun (pre : List (Nat × Ev)) W => OutI A w2 (pre.map fun p => p.2.t) W) (fun (pre : List (Nat × Ev)) A0 A' (h : OutI A w2 (pre.map fun p => p.2.t) A0) K => h.move K (fun b q hb => by
        rcases q with q | q
        · exact q.elim
        · exact ⟨q.1, q⟩)) HI0.out
      (fun x a' W => ∃ D, a' = { tmps := #[.slice aa l.length cap, .int .i64 job, undef, undef, .slice none 0 0, .int .i64 0, .int .i64 0, .pointer (some ⟨A, 0, none⟩), undef, .pointer (some ⟨D, 0, none⟩), .slice aa l.length cap, .int .i64 job, .int .i64 0, .int .i64 0, .bool false, undef, .slice aa l.length cap, .int .i64 job, .func (.func 68) #[] #[.pointer (some ⟨B, 0, none⟩), .pointer (some ⟨B2, 0, none⟩), .pointer (some ⟨B3, 0, none⟩)], .int .i64 (x.1 : Nat), evV x.2, undef, undef, undef, undef, undef, undef], defers := [] } ∧ OneAt D x.2 w2 W)
      (fun x a' A0 A' h K => by
        obtain ⟨D, h1, h2, h3⟩ := h
        exact ⟨D, h1, h2.kept K (fun q => h2.cellsB q), h3⟩) ?assign ?body ?done
    case assign =>
      intro lo pre x W K hI hK
      have HI := Lib.hid hI
      clear hI
      gi_wp2
      exact hK _ _ (keepsFrom_of_kept ((Kept.refl (fun _ => False) W).alloc _) (fun _ h => h.elim)) ((Kept.refl _ W).alloc _) (HI.out.move ((Kept.refl (fun _ => False) W).alloc _) (fun _ h => h.elim)) ⟨_, rfl, RowAt.new _ _ _, HI.out.size⟩
    case done =>
      rintro D ys W hD rfl hI hK
      obtain ⟨vo, ho1, ho2⟩ := hI.out
      have hc := ho1.get (j := 0) rfl
      have HI := Lib.hid hI
      have HO := Lib.hid ho2
      clear hI ho1 ho2
      gi_wp2
      refine ⟨by simp, .inl ⟨_, _, rfl, run_takeDeferred hK, ?_⟩⟩
      have kD : Kept (fun b => b = D) W (W.putObj D (.deferred none)) := kept_putObj (S := fun b => b = D) W D _ (fun _ => rfl)
      refine ⟨_, results_tmp2 rfl _ _ _, vo, rfl, ?_⟩
      rw [if_pos rfl]
      have hsz : w.heap.size ≤ w2.heap.size := HKw.out.size
      refine ⟨?_, Nat.le_trans hsz (Nat.le_trans HI.out.size kD.size), ?_⟩
      · rw [cells_ints]
        exact ownsRow_putObj (ownsRow_base HO.out hsz) _ hK rfl
      · exact (HKw.out.trans HI.out.kept (fun i hi q => by have := HAW.out; omega)).trans kD (fun i hi q => by omega)
    case body =>
      rintro lo pre x a' W hI ⟨D, rfl, hD, hDl⟩ hSx
      have hpl : (pre.map fun p => p.2.t).length ≤ 100000 := by
        have h1 := hSx.length_le
        have h2 := picks_len (fun e => e.kind == 1) job l l.length
        rw [List.length_append, List.length_singleton] at h1
        rw [List.length_map]
        omega
      have hnx : ((pre ++ [x]).map fun p => p.2.t) = (pre.map fun p => p.2.t) ++ [x.2.t] := by simp
      have HNX := Lib.hid hnx
      obtain ⟨vo, ho1, ho2⟩ := hI.out
      have HI := Lib.hid hI
      have HO1 := Lib.hid ho1
      have HO2 := Lib.hid ho2
      generalize (pre.map fun p => p.2.t) = out at HI HO2 hpl HNX
      obtain ⟨i, x⟩ := x
      dsimp only at hD HNX ⊢
      have a1 := hD.get (j := 1) rfl
      have o0 := ho1.get (j := 0) rfl
      have oz := ho1.fz 0
      have ol := ho1.lt
      have dl := hD.lt
      have hob := fun b (hb : vo.ownBlock = some b) => (ownsRow_block HO2.out hb)
      obtain ⟨j2, z, hi, hz, hsz, hby, hzs⟩ := el38.info
      obtain ⟨v', w5, hrun, own5, hg5, hor⟩ := run_append_new (P := Try.prog) (W.alloc (.cells #[.int .i64 x.t] 2)) w2.heap.size 38 38 2 j2 z 1 8 Try.underlying38 hi hz hsz hby hzs (by decide) vo out.length (out.map (Value.int .i64)) (HO2.out.alloc _) ⟨W.heap.size, 0, none⟩ 1 1 [.int .i64 x.t] rfl
        (fun j u hj => by rw [Addr.add_mid, Nat.zero_add, World.cell?_alloc_at _ _ _ _ rfl]; simpa using hj) (by intro u hu; simp at hu; subst hu; rfl) (by unfold maxLen; omega) (by omega) (by have := HI.out.size; simp; omega) (by decide)
      obtain ⟨g, cg, rfl⟩ : ∃ g cg, v' = .slice (some ⟨g, 0, none⟩) (out.length + 1) cg := by
        obtain ⟨g, cap, hv, -⟩ := ownsRow_pos own5 (by omega)
        exact ⟨g, cap, hv⟩
      have k5 : Kept (fun b => vo.ownBlock = some b) W w5 := ((Kept.refl _ W).alloc _).trans (Kept.of_grown hg5) (fun i _ q => q)
      have out5 := HO1.out.kept k5 (fun q => by have := hob _ q; omega)
      have hgb := (ownsRow_block own5 (b := g) rfl).1
      have o5 := out5.get (j := 0) rfl
      have z5 := out5.fz 0
      have k6 : Kept (fun b => b = A) w5 (w5.setCell ⟨A, 0, none⟩ (.slice (some ⟨g, 0, none⟩) (out.length + 1) cg)) := (Kept.refl _ _).setCell _ _ (by simp)
      have K6 : Kept (fun b => b = A ∨ vo.ownBlock = some b) W (w5.setCell ⟨A, 0, none⟩ (.slice (some ⟨g, 0, none⟩) (out.length + 1) cg)) := (k5.mono fun _ _ q => .inr q).trans k6 (fun b hb q => .inl q)
      have hfin : KeepsFrom w2.heap.size W (w5.setCell ⟨A, 0, none⟩ (.slice (some ⟨g, 0, none⟩) (out.length + 1) cg)) ∧ SKp B B2 B3 (.slice aa l.length cap) l W (w5.setCell ⟨A, 0, none⟩ (.slice (some ⟨g, 0, none⟩) (out.length + 1) cg)) ∧
          OutI A w2 (out ++ [x.t]) (w5.setCell ⟨A, 0, none⟩ (.slice (some ⟨g, 0, none⟩) (out.length + 1) cg)) := by
        refine ⟨keepsFrom_of_kept K6 fun b q => ?_, K6.mono fun b hb q => ?_, ⟨.slice (some ⟨g, 0, none⟩) (out.length + 1) cg, out5.set (j := 0) (by simp) _, ?_⟩, HI.out.kept.trans K6 fun b hb q => ?_, Nat.le_trans HI.out.size K6.size⟩
        · rcases q with rfl | q
          · exact HO1.out.cellsB
          · exact ownsRow_cells HO2.out q
        · have hne : b = A ∨ w2.heap.size ≤ b := by
            rcases q with q | q
            · exact .inl q
            · exact .inr (hob b q).1
          exact ⟨by omega, by omega, by omega, fun q2 => by
            rcases Nat.eq_zero_or_pos l.length with h0 | h0
            · exact List.eq_nil_of_length_eq_zero h0
            · have := HVB.out _ q2 h0; omega⟩
        · have := ownsRow_kept own5 k6 (fun b hb q2 q => by
            simp only [Value.ownBlock, Option.some.injEq] at q2
            omega)
          simpa using this
        · rcases q with q | q
          · exact q
          · have := (hob b q).1; omega
      have FIN := Lib.hid hfin
      have ng1 : g ≠ A := by omega
      have ng2 : A ≠ g := by omega
      clear hfin K6 k6 k5 out5 own5 hor hg5 hob hgb hi hz hsz hby hzs hI ho1 ho2 hD hnx hSx
      simp [go_sem] at hrun
      gi_wp2
      refine ⟨FIN.out.1, FIN.out.2.1, ?_⟩
      show OutI A w2 (List.map (fun p => p.2.t) (pre ++ [(i, x)])) _
      rw [HNX.out]
      exact FIN.out.2.2
  · have hb1 : (c != 0) = true := by simpa using hc0
    have hb2 : (c == 0) = false := by simpa using hc0
    have HF : Hid (IRO w w1 (.slice none 0 0) (if c = 0 then (picks (fun e => e.kind == 1) job l l.length).map fun p => p.2.t else [])) := Lib.hid (by rw [if_neg hc0]; exact (RO.start _ _ _ w).move HK1.out)
    gi_wp2
    refine ⟨_, results_tmp2 rfl _ _ _, _, rfl, HF.out⟩
end Go.Proofs.Ytfhlllmicobafaa

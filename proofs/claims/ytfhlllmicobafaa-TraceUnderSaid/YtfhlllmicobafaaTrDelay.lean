/- TrDelay: texts for the statements of this seat: contracts of functions, walks, plain laws. Conditions: none. -/
import Derived.IntWalk
import Derived.Test.YtfhlllmicobafaaTrPred
set_option linter.all false
/- Delay. -/
namespace Go.Proofs.Ytfhlllmicobafaa
open Go.RowKit Go.Shelf
open Tr (Ev ofB)
attribute [local go_sem] Oper.semAt_some

/-- A number in a box. -/
structure NumI (A : Nat) (w2 : World) (m : Int) (W : World) : Prop where
  box : RowAt W A [.int .i64 m]
  kept : Kept (fun b => b = A) w2 W
  size : w2.heap.size ≤ W.heap.size
theorem NumI.move {A : Nat} {w2 : World} {m : Int} {W W' : World} {S : Nat → Prop} (h : NumI A w2 m W) (K : Kept S W W') (hS : ∀ b, S b → b < W.heap.size → w2.heap.size ≤ b ∧ NoCells w2.heap.size W b) : NumI A w2 m W' where
  box := h.box.kept K (fun q => h.box.cellsB (hS _ q h.box.lt).2)
  kept := h.kept.trans K (fun i hi q => by have := (hS i q (Nat.lt_of_lt_of_le hi h.size)).1; omega)
  size := Nat.le_trans h.size K.size
def NumPost (w : World) (c : Int) (m : Int) (r : Ending) (w' : World) : Prop := r = .returned (.tuple #[.int .i64 (if c = 0 then m else 0), .int .i64 c]) ∧ Kept (fun _ => False) w w'
def isFirst (e : Ev) : Bool := decide (e.kind = 1) && decide (e.att = 1)
def dfold (l : List (Nat × Ev)) : Int := l.foldl (fun m p => max m (p.2.t - p.2.due)) 0
theorem dfold_le (l : List (Nat × Ev)) (h : ∀ p ∈ l, p.2.t - p.2.due ≤ 253402300799) : 0 ≤ dfold l ∧ dfold l ≤ 253402300799 := by
  have : ∀ (l : List (Nat × Ev)) (m : Int), 0 ≤ m ∧ m ≤ 253402300799 → (∀ p ∈ l, p.2.t - p.2.due ≤ 253402300799) → 0 ≤ l.foldl (fun m p => max m (p.2.t - p.2.due)) m ∧ l.foldl (fun m p => max m (p.2.t - p.2.due)) m ≤ 253402300799 := by
    intro l
    induction l with
    | nil => intro m hm _; exact hm
    | cons a l ih =>
      intro m hm h
      have := h a (List.mem_cons_self ..)
      refine ih _ (show 0 ≤ max m (a.2.t - a.2.due) ∧ max m (a.2.t - a.2.due) ≤ 253402300799 by omega) fun p hp => h p (List.mem_cons_of_mem _ hp)
  exact this l 0 (by omega) h
theorem dfold_bd {job : Int} {l : List Ev} (hok : Tr.Ok 64 l) {pre : List (Nat × Ev)} (h : pre <+: picks isFirst job l l.length) : 0 ≤ dfold pre ∧ dfold pre ≤ 253402300799 := by
  refine dfold_le pre fun p hp => ?_
  have hx := picks_mem (h.subset hp)
  have hck := Tr.chk_ok (hok.each (List.mem_of_getElem? hx.2.1))
  have hk1 : p.2.kind = 1 := by have := hx.2.2.2; simp [isFirst] at this; exact this.1
  have := hck.2.2.2.2
  simp [Tr.fits, hk1] at this
  omega
set_option maxRecDepth 100000 in
set_option maxHeartbeats 4000000 in
theorem delay_in (n : Nat) (hn : 4 ≤ n) {w : World} {v : Value} {l : List Ev} (h : Evs w v l) (hw : EvW l) (hl : l.length ≤ 100000) (job : Int) :
    CallsIn Fence.wide n Try.prog 26 #[v, .int .i64 job] w (NumPost w (wrongE l job (-1) 63) (dfold (picks isFirst job l l.length))) := by
  have h1 : 1 ≤ n := by omega
  have HC := Lib.hid (checked_c h hw (by omega) job (-1) 63)
  have HQ := Lib.hid h
  obtain ⟨aa, cap, rfl⟩ := h.len
  clear h hw
  refine callsIn_of_wp_marks Try.func26 rfl trivial ?_ rfl
  simp only [Try.ntmps26, List.size_toArray, List.length_cons, List.length_nil, Nat.reduceAdd, Nat.reduceSub, Array.replicate_succ, Array.replicate_zero, List.push_toArray, List.append_toArray, List.nil_append, List.cons_append]
  obtain ⟨c, hc⟩ : ∃ c, wrongE l job (-1) 63 = c := ⟨_, rfl⟩
  have HWE := Lib.hid hc
  rw [hc] at HC ⊢
  gi_wp2_with fail
  refine ⟨trivial, ?_⟩
  refine (callsIn_wide.2 HC.out).mono ?_
  rintro e w1 ⟨rfl, K1⟩
  have HK1 := Lib.hid K1
  clear K1 hc
  by_cases hc0 : c = 0
  · subst hc0
    have HOK := Lib.hid (wrong_ok HWE.out).1
    have r1 := RowAt.new w1 2 #[.int .i64 0]
    have kA : Kept (fun _ => False) w1 (w1.alloc (.cells #[.int .i64 0] 2)) := (Kept.refl _ _).alloc _
    gi_wp2_with fail
    refine ⟨trivial, ?_⟩
    refine (callsIn_wide.2 (some_c aa l.length cap l job 57 #[] _ ((HQ.out.same HK1.out).same kA))).mono ?_
    rintro e w2 ⟨B, B2, B3, rfl, hB, hbx, K2⟩
    simp only [World.size_alloc] at hB
    have HA := Lib.hid (r1.same K2)
    have HKw := Lib.hid ((HK1.out.trans kA (fun _ _ h => h)).trans K2 (fun _ _ h => h))
    have HBX := Lib.hid hbx
    obtain ⟨A, hA⟩ : ∃ A, w1.heap.size = A := ⟨_, rfl⟩
    rw [hA] at HA hB ⊢
    obtain ⟨hB1, hB2, hB3⟩ := hB
    have hBl := hbx.bl.lt
    have hBj := hbx.bj.lt
    have hBi := hbx.bi.lt
    have hAl := HA.out.lt
    have hvb : ∀ b, (Value.slice aa l.length cap).ownBlock = some b → 0 < l.length → b < A := fun b hb hp => by have := ((HQ.out.same HK1.out).block hb hp); omega
    have HAW : Hid (w.heap.size ≤ A) := Lib.hid (by rw [← hA]; exact HK1.out.size)
    have HVB := Lib.hid hvb
    clear r1 kA K2 hbx hA hvb
    have HI0 : Hid (NumI A w2 0 w2) := Lib.hid ⟨HA.out, Kept.refl _ _, Nat.le_refl _⟩
    have HIS : Hid (∀ b e W, isFirst e = b → Boxes W B B2 B3 (.slice aa l.length cap) job (.func (.func 57) #[] #[]) l → Calls Try.prog 57 #[evV e] W fun r W' => r = .returned (.bool b) ∧ Kept (fun _ => False) W W') := Lib.hid fun b e W hb _ => first1_is b e W hb
    gi_wp2_with fail
    refine wpIn_rangeFunc_W rfl h1 (gf := 68) (lb := #[.pointer (some ⟨B, 0, none⟩), .pointer (some ⟨B2, 0, none⟩), .pointer (some ⟨B3, 0, none⟩)]) rfl trivial (enters_of Try.func68 (by kernel_rfl) rfl)
      (some_seq57 (n - 1) (by omega) B B2 B3 _ job l (by omega) isFirst HIS w2 HBX.out) (fun b q => q.elim) (fun h k => h.trans k (fun _ _ q => q))
      (fun W lo o hlo => kept_putObj W lo o (fun hlo2 => ⟨by omega, by omega, by omega, fun q => by
        rcases Nat.eq_zero_or_pos l.length with h0 | h0
        · exact List.eq_nil_of_length_eq_zero h0
        · have := HVB.out _ q h0; omega⟩)) (fun _ => rfl)
      (fun (pre : List (Nat × Ev)) W => NumI A w2 (dfold pre) W) (fun (pre : List (Nat × Ev)) A0 A' (h : NumI A w2 (dfold pre) A0) K => h.move K (fun b q hb => by
        rcases q with q | q
        · exact q.elim
        · exact ⟨q.1, q⟩)) HI0.out
      (fun x a' W => ∃ D, a' = { tmps := #[.slice aa l.length cap, .int .i64 job, undef, undef, .int .i64 0, .int .i64 0, .int .i64 0, .pointer (some ⟨A, 0, none⟩), undef, .pointer (some ⟨D, 0, none⟩), .slice aa l.length cap, .int .i64 job, .int .i64 0, .int .i64 0, .bool false, undef, .slice aa l.length cap, .int .i64 job, .func (.func 68) #[] #[.pointer (some ⟨B, 0, none⟩), .pointer (some ⟨B2, 0, none⟩), .pointer (some ⟨B3, 0, none⟩)], .int .i64 (x.1 : Nat), evV x.2, undef, undef, undef, undef, undef, undef, undef, undef], defers := [] } ∧ OneAt D x.2 w2 W)
      (fun x a' A0 A' h K => by
        obtain ⟨D, h1, h2, h3⟩ := h
        exact ⟨D, h1, h2.kept K (fun q => h2.cellsB q), h3⟩) ?assign ?body ?done
    case assign =>
      intro lo pre x W K hI hK
      have HI := Lib.hid hI
      clear hI
      gi_wp2
      exact hK _ _ (keepsFrom_of_kept ((Kept.refl (fun _ => False) W).alloc _) (fun _ h => h.elim)) ((Kept.refl _ W).alloc _) (HI.out.move ((Kept.refl (fun _ => False) W).alloc _) (fun _ h => h.elim)) ⟨_, rfl, RowAt.new _ _ _, HI.out.size⟩
    case done =>
      rintro D ys W hD rfl hI hK
      have hc := hI.box.get (j := 0) rfl
      have HI := Lib.hid hI
      clear hI
      gi_wp2
      refine ⟨by simp, .inl ⟨_, _, rfl, run_takeDeferred hK, ?_⟩⟩
      have kD : Kept (fun b => b = D) W (W.putObj D (.deferred none)) := kept_putObj (S := fun b => b = D) W D _ (fun _ => rfl)
      refine ⟨_, results_tmp2 rfl _ _ _, by rw [if_pos rfl]; rfl, ?_⟩
      exact (HKw.out.trans HI.out.kept (fun i hi q => by have := HAW.out; omega)).trans kD (fun i hi q => by have := HKw.out.size; omega)
    case body =>
      rintro lo pre x a' W hI ⟨D, rfl, hD, hDl⟩ hSx
      have hx := picks_mem (hSx.subset (List.mem_append_right _ (List.mem_singleton_self x)))
      have hck := Tr.chk_ok (HOK.out.each (List.mem_of_getElem? hx.2.1))
      have hk1 : x.2.kind = 1 := by have := hx.2.2.2; simp [isFirst] at this; exact this.1
      have hdu : 0 ≤ x.2.due ∧ x.2.due ≤ x.2.t := by
        have := hck.2.2.2.2
        simp [Tr.fits, hk1] at this
        omega
      have hm := dfold_bd HOK.out (pre := pre) ((List.prefix_append pre [x]).trans hSx)
      have hnx : dfold (pre ++ [x]) = max (dfold pre) (x.2.t - x.2.due) := by simp [dfold]
      have HNX := Lib.hid hnx
      have HI := Lib.hid hI
      generalize dfold pre = m at HI HNX hm
      obtain ⟨i, x⟩ := x
      dsimp only at hD HNX hdu hck ⊢
      have a1 := hD.get (j := 1) rfl
      have a3 := hD.get (j := 3) rfl
      have o0 := HI.out.box.get (j := 0) rfl
      have oz := HI.out.box.fz 0
      have ol := HI.out.box.lt
      have dl := hD.lt
      obtain ⟨q, hq⟩ : ∃ q, max m (x.t - x.due) = q := ⟨_, rfl⟩
      have K6 : Kept (fun b => b = A) W (W.setCell ⟨A, 0, none⟩ (.int .i64 q)) := (Kept.refl _ _).setCell _ _ (by simp)
      have hfin : KeepsFrom w2.heap.size W (W.setCell ⟨A, 0, none⟩ (.int .i64 q)) ∧ SKp B B2 B3 (.slice aa l.length cap) l W (W.setCell ⟨A, 0, none⟩ (.int .i64 q)) ∧ NumI A w2 q (W.setCell ⟨A, 0, none⟩ (.int .i64 q)) := by
        refine ⟨keepsFrom_of_kept K6 fun b q => by subst q; exact HI.out.box.cellsB, K6.mono fun b hb q => ?_, HI.out.box.set (j := 0) (by simp) _, HI.out.kept.trans K6 fun b hb q => q, Nat.le_trans HI.out.size K6.size⟩
        exact ⟨by omega, by omega, by omega, fun q2 => by
          rcases Nat.eq_zero_or_pos l.length with h0 | h0
          · exact List.eq_nil_of_length_eq_zero h0
          · have := HVB.out _ q2 h0; omega⟩
      have FIN := Lib.hid hfin
      have HQ2 := Lib.hid hq
      clear hfin K6 hI hD hnx hSx hx hk1 hq
      obtain ⟨hk0, hk8, ht0, ht1, -⟩ := hck
      have hNX2 : Hid (dfold (pre ++ [(i, x)]) = q) := Lib.hid (HNX.out.trans HQ2.out)
      gi_wp2
      · have hqe : x.t - x.due = q := by have := HQ2.out; omega
        refine ⟨by rw [hqe]; exact FIN.out.1, by rw [hqe]; exact FIN.out.2.1, ?_⟩
        show NumI A w2 (dfold (pre ++ [(i, x)])) _
        rw [hNX2.out, hqe]
        exact FIN.out.2.2
      · have hqe : m = q := by have := HQ2.out; omega
        refine ⟨by rw [hqe]; exact FIN.out.1, by rw [hqe]; exact FIN.out.2.1, ?_⟩
        show NumI A w2 (dfold (pre ++ [(i, x)])) _
        rw [hNX2.out, hqe]
        exact FIN.out.2.2
  · have hb1 : (c != 0) = true := by simpa using hc0
    have hb2 : (c == 0) = false := by simpa using hc0
    have HF : Hid ((if c = 0 then dfold (picks isFirst job l l.length) else 0) = 0) := Lib.hid (by rw [if_neg hc0])
    gi_wp2
    refine ⟨_, results_tmp2 rfl _ _ _, by rw [HF.out]; rfl, HK1.out⟩
end Go.Proofs.Ytfhlllmicobafaa

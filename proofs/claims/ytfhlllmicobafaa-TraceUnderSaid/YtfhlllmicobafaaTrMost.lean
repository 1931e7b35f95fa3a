/- TrMost: texts for the statements of this seat: contracts of functions, walks, plain laws. Conditions: none. -/
import Derived.Test.YtfhlllmicobafaaTrDelay
set_option linter.all false
/- Most. -/
namespace Go.Proofs.Ytfhlllmicobafaa
open Go.RowKit Go.Shelf
open Tr (Ev ofB)
attribute [local go_sem] Oper.semAt_some

/-- Two numbers in two boxes. -/
structure Num2 (A : Nat) (w2 : World) (m : Int × Int) (W : World) : Prop where
  box : RowAt W A [.int .i64 m.1]
  box2 : RowAt W (A + 1) [.int .i64 m.2]
  kept : Kept (fun b => b = A ∨ b = A + 1) w2 W
  size : w2.heap.size ≤ W.heap.size
theorem Num2.move {A : Nat} {w2 : World} {m : Int × Int} {W W' : World} {S : Nat → Prop} (h : Num2 A w2 m W) (K : Kept S W W') (hS : ∀ b, S b → b < W.heap.size → w2.heap.size ≤ b ∧ NoCells w2.heap.size W b) : Num2 A w2 m W' where
  box := h.box.kept K (fun q => h.box.cellsB (hS _ q h.box.lt).2)
  box2 := h.box2.kept K (fun q => h.box2.cellsB (hS _ q h.box2.lt).2)
  kept := h.kept.trans K (fun i hi q => by have := (hS i q (Nat.lt_of_lt_of_le hi h.size)).1; omega)
  size := Nat.le_trans h.size K.size
theorem Num2.same {A : Nat} {w2 : World} {m : Int × Int} {W W' : World} (h : Num2 A w2 m W) (K : Kept (fun _ => False) W W') : Num2 A w2 m W' := h.move K fun _ q _ => q.elim
def isEnd (e : Ev) : Bool := decide (e.kind ≤ 3)
def mst (m : Int × Int) (x : Ev) : Int × Int := if x.kind = 1 then (m.1 + 1, max m.2 (m.1 + 1)) else (m.1 - 1, m.2)
def mf (l : List (Nat × Ev)) : Int × Int := l.foldl (fun m p => mst m p.2) (0, 0)
theorem mf_bd (l : List (Nat × Ev)) : -(l.length : Int) ≤ (mf l).1 ∧ (mf l).1 ≤ l.length ∧ 0 ≤ (mf l).2 ∧ (mf l).2 ≤ l.length := by
  have : ∀ (l : List (Nat × Ev)) (m : Int × Int), m.1 - l.length ≤ (l.foldl (fun m p => mst m p.2) m).1 ∧ (l.foldl (fun m p => mst m p.2) m).1 ≤ m.1 + l.length ∧ m.2 ≤ (l.foldl (fun m p => mst m p.2) m).2 ∧ (l.foldl (fun m p => mst m p.2) m).2 ≤ max m.2 (m.1 + l.length) := by
    intro l
    induction l with
    | nil => intro m; simp; omega
    | cons a l ih =>
      intro m
      have := ih (mst m a.2)
      simp only [List.foldl_cons, List.length_cons]
      unfold mst at this ⊢
      split at this <;> split <;> simp only [] at this ⊢ <;> omega
  have := this l (0, 0)
  simp only [] at this
  unfold mf
  omega
set_option maxRecDepth 100000 in
set_option maxHeartbeats 4000000 in
theorem most_in (n : Nat) (hn : 4 ≤ n) {w : World} {v : Value} {l : List Ev} (h : Evs w v l) (hw : EvW l) (hl : l.length ≤ 100000) (job : Int) :
    CallsIn Fence.wide n Try.prog 17 #[v, .int .i64 job] w (NumPost w (wrongE l job (-1) 63) (mf (picks isEnd job l l.length)).2) := by
  have h1 : 1 ≤ n := by omega
  have HC := Lib.hid (checked_c h hw (by omega) job (-1) 63)
  have HQ := Lib.hid h
  obtain ⟨aa, cap, rfl⟩ := h.len
  clear h hw
  refine callsIn_of_wp_marks Try.func17 rfl trivial ?_ rfl
  simp only [Try.ntmps17, List.size_toArray, List.length_cons, List.length_nil, Nat.reduceAdd, Nat.reduceSub, Array.replicate_succ, Array.replicate_zero, List.push_toArray, List.append_toArray, List.nil_append, List.cons_append]
  obtain ⟨c, hc⟩ : ∃ c, wrongE l job (-1) 63 = c := ⟨_, rfl⟩
  have HWE := Lib.hid hc
  rw [hc] at HC ⊢
  gi_wp2_with fail
  refine ⟨trivial, ?_⟩
  refine (callsIn_wide.2 HC.out).mono ?_
  rintro e w1 ⟨rfl, K1⟩
  have HK1 := Lib.hid K1
  clear K1 hc
  by_cases hc0 : c = 0
  · subst hc0
    have HOK := Lib.hid (wrong_ok HWE.out).1
    have r1 := RowAt.new w1 3 #[.int .i64 0]
    have r2 := RowAt.new (w1.alloc (.cells #[.int .i64 0] 3)) 3 #[.int .i64 0]
    rw [World.size_alloc] at r2
    have kA : Kept (fun _ => False) w1 ((w1.alloc (.cells #[.int .i64 0] 3)).alloc (.cells #[.int .i64 0] 3)) := ((Kept.refl _ _).alloc _).alloc _
    gi_wp2_with fail
    refine ⟨trivial, ?_⟩
    refine (callsIn_wide.2 (some_c aa l.length cap l job 53 #[] _ ((HQ.out.same HK1.out).same kA))).mono ?_
    rintro e w2 ⟨B, B2, B3, rfl, hB, hbx, K2⟩
    simp only [World.size_alloc] at hB
    have HA := Lib.hid ((r1.same ((Kept.refl _ _).alloc _)).same K2)
    have HA2 := Lib.hid (r2.same K2)
    have HKw := Lib.hid ((HK1.out.trans kA (fun _ _ h => h)).trans K2 (fun _ _ h => h))
    have HBX := Lib.hid hbx
    obtain ⟨A, hA⟩ : ∃ A, w1.heap.size = A := ⟨_, rfl⟩
    rw [hA] at HA HA2 hB ⊢
    obtain ⟨hB1, hB2, hB3⟩ := hB
    have hBl := hbx.bl.lt
    have hBj := hbx.bj.lt
    have hBi := hbx.bi.lt
    have hAl := HA.out.lt
    have hvb : ∀ b, (Value.slice aa l.length cap).ownBlock = some b → 0 < l.length → b < A := fun b hb hp => by have := ((HQ.out.same HK1.out).block hb hp); omega
    have HAW : Hid (w.heap.size ≤ A) := Lib.hid (by rw [← hA]; exact HK1.out.size)
    have HVB := Lib.hid hvb
    clear r1 r2 kA K2 hbx hA hvb
    have HI0 : Hid (Num2 A w2 (0, 0) w2) := Lib.hid ⟨HA.out, HA2.out, Kept.refl _ _, Nat.le_refl _⟩
    have HIS : Hid (∀ b e W, isEnd e = b → Boxes W B B2 B3 (.slice aa l.length cap) job (.func (.func 53) #[] #[]) l → Calls Try.prog 53 #[evV e] W fun r W' => r = .returned (.bool b) ∧ Kept (fun _ => False) W W') := Lib.hid fun b e W hb _ => le3_is b e W hb
    gi_wp2_with fail
    refine wpIn_rangeFunc_W rfl h1 (gf := 68) (lb := #[.pointer (some ⟨B, 0, none⟩), .pointer (some ⟨B2, 0, none⟩), .pointer (some ⟨B3, 0, none⟩)]) rfl trivial (enters_of Try.func68 (by kernel_rfl) rfl)
      (some_seq53 (n - 1) (by omega) B B2 B3 _ job l (by omega) isEnd HIS w2 HBX.out) (fun b q => q.elim) (fun h k => h.trans k (fun _ _ q => q))
      (fun W lo o hlo => kept_putObj W lo o (fun hlo2 => ⟨by omega, by omega, by omega, fun q => by
        rcases Nat.eq_zero_or_pos l.length with h0 | h0
        · exact List.eq_nil_of_length_eq_zero h0
        · have := HVB.out _ q h0; omega⟩)) (fun _ => rfl)
      (fun (pre : List (Nat × Ev)) W => Num2 A w2 (mf pre) W) (fun (pre : List (Nat × Ev)) A0 A' (h : Num2 A w2 (mf pre) A0) K => h.move K (fun b q hb => by
        rcases q with q | q
        · exact q.elim
        · exact ⟨q.1, q⟩)) HI0.out
      (fun x a' W => ∃ D, a' = { tmps := #[.slice aa l.length cap, .int .i64 job, undef, undef, .int .i64 0, .int .i64 0, .int .i64 0, .pointer (some ⟨A, 0, none⟩), .pointer (some ⟨A + 1, 0, none⟩), undef, .pointer (some ⟨D, 0, none⟩), .slice aa l.length cap, .int .i64 job, .int .i64 0, .int .i64 0, .bool false, undef, .slice aa l.length cap, .int .i64 job, .func (.func 68) #[] #[.pointer (some ⟨B, 0, none⟩), .pointer (some ⟨B2, 0, none⟩), .pointer (some ⟨B3, 0, none⟩)], .int .i64 (x.1 : Nat), evV x.2, undef, undef, undef, undef, undef, undef, undef, undef, undef, undef], defers := [] } ∧ OneAt D x.2 w2 W)
      (fun x a' A0 A' h K => by
        obtain ⟨D, h1, h2, h3⟩ := h
        exact ⟨D, h1, h2.kept K (fun q => h2.cellsB q), h3⟩) ?assign ?body ?done
    case assign =>
      intro lo pre x W K hI hK
      have HI := Lib.hid hI
      clear hI
      gi_wp2
      exact hK _ _ (keepsFrom_of_kept ((Kept.refl (fun _ => False) W).alloc _) (fun _ h => h.elim)) ((Kept.refl _ W).alloc _) (HI.out.move ((Kept.refl (fun _ => False) W).alloc _) (fun _ h => h.elim)) ⟨_, rfl, RowAt.new _ _ _, HI.out.size⟩
    case done =>
      rintro D ys W hD rfl hI hK
      have hc := hI.box2.get (j := 0) rfl
      have HI := Lib.hid hI
      clear hI
      gi_wp2
      refine ⟨by simp, .inl ⟨_, _, rfl, run_takeDeferred hK, ?_⟩⟩
      have kD : Kept (fun b => b = D) W (W.putObj D (.deferred none)) := kept_putObj (S := fun b => b = D) W D _ (fun _ => rfl)
      refine ⟨_, results_tmp2 rfl _ _ _, by rw [if_pos rfl]; rfl, ?_⟩
      exact (HKw.out.trans HI.out.kept (fun i hi q => by have := HAW.out; omega)).trans kD (fun i hi q => by have := HKw.out.size; omega)
    case body =>
      rintro lo pre x a' W hI ⟨D, rfl, hD, hDl⟩ hSx
      have hx := picks_mem (hSx.subset (List.mem_append_right _ (List.mem_singleton_self x)))
      have hpl : pre.length ≤ 100000 := by
        have h1 := hSx.length_le
        have h2 := picks_len isEnd job l l.length
        rw [List.length_append, List.length_singleton] at h1
        omega
      have hm := mf_bd pre
      have hnx : mf (pre ++ [x]) = mst (mf pre) x.2 := by simp [mf]
      have HNX := Lib.hid hnx
      have HI := Lib.hid hI
      generalize mf pre = m at HI HNX hm
      obtain ⟨i, x⟩ := x
      obtain ⟨m1, m2⟩ := m
      dsimp only at hD HNX hm ⊢
      have c0 := hD.get (j := 0) rfl
      have c1 := hD.get (j := 1) rfl
      have c2 := hD.get (j := 2) rfl
      have c3 := hD.get (j := 3) rfl
      have c4 := hD.get (j := 4) rfl
      have c5 := hD.get (j := 5) rfl
      have c6 := hD.get (j := 6) rfl
      have c7 := hD.get (j := 7) rfl
      have dl := hD.lt
      have keep : ∀ W1 W2, Kept (fun _ => False) W W1 → Kept (fun b => b = A ∨ b = A + 1) W1 W2 → KeepsFrom w2.heap.size W W2 ∧ SKp B B2 B3 (.slice aa l.length cap) l W W2 ∧ Kept (fun b => b = A ∨ b = A + 1) w2 W2 ∧ w2.heap.size ≤ W2.heap.size := fun W1 W2 k1 k2 => by
        have k : Kept (fun b => b = A ∨ b = A + 1) W W2 := (k1.mono (T := fun b => b = A ∨ b = A + 1) fun _ _ h => h.elim).trans k2 (fun _ _ h => h)
        refine ⟨keepsFrom_of_kept k fun b q => by rcases q with rfl | rfl; exact HI.out.box.cellsB; exact HI.out.box2.cellsB, k.mono fun b hb q => ?_, HI.out.kept.trans k fun b hb q => q, Nat.le_trans HI.out.size k.size⟩
        exact ⟨by omega, by omega, by omega, fun q2 => by
          rcases Nat.eq_zero_or_pos l.length with h0 | h0
          · exact List.eq_nil_of_length_eq_zero h0
          · have := HVB.out _ q2 h0; omega⟩
      have KEEP := Lib.hid keep
      clear hI hD hnx hSx hx keep
      by_cases hk : x.kind = 1
      · have hkb : (x.kind == 1) = true := by simpa using hk
        have HNX2 : Hid (mf (pre ++ [(i, x)]) = (m1 + 1, max m2 (m1 + 1))) := Lib.hid (by rw [HNX.out]; simp [mst, hk])
        clear hk
        gi_wp2_with fail
        refine ⟨trivial, fun h => (by cases h), ?_⟩
        refine (CallsIn.inRound lo (callsIn_wide.2 (launched_is true x _ hkb))).mono ?_
        rintro e W3 ⟨rfl, K3⟩
        have HI3 := Lib.hid (HI.out.same K3)
        have HK3 := Lib.hid K3
        clear c0 c1 c2 c3 c4 c5 c6 c7 dl K3
        have o0 := HI3.out.box.get (j := 0) rfl
        have oz := HI3.out.box.fz 0
        have ol := HI3.out.box.lt
        have p0 := HI3.out.box2.get (j := 0) rfl
        have pz := HI3.out.box2.fz 0
        have pl := HI3.out.box2.lt
        obtain ⟨q, hq⟩ : ∃ q, max m2 (m1 + 1) = q := ⟨_, rfl⟩
        have HQ2 := Lib.hid hq
        rw [hq] at HNX2
        have FIN : Hid (Num2 A w2 (m1 + 1, q) ((W3.setCell ⟨A, 0, none⟩ (.int .i64 (m1 + 1))).setCell ⟨A + 1, 0, none⟩ (.int .i64 q)) ∧ KeepsFrom w2.heap.size W ((W3.setCell ⟨A, 0, none⟩ (.int .i64 (m1 + 1))).setCell ⟨A + 1, 0, none⟩ (.int .i64 q)) ∧ SKp B B2 B3 (.slice aa l.length cap) l W ((W3.setCell ⟨A, 0, none⟩ (.int .i64 (m1 + 1))).setCell ⟨A + 1, 0, none⟩ (.int .i64 q))) := Lib.hid (by
          have k1 : Kept (fun b => b = A) W3 (W3.setCell ⟨A, 0, none⟩ (.int .i64 (m1 + 1))) := (Kept.refl _ _).setCell _ _ (by simp)
          have k2 : Kept (fun b => b = A + 1) (W3.setCell ⟨A, 0, none⟩ (.int .i64 (m1 + 1))) ((W3.setCell ⟨A, 0, none⟩ (.int .i64 (m1 + 1))).setCell ⟨A + 1, 0, none⟩ (.int .i64 q)) := (Kept.refl _ _).setCell _ _ (by simp)
          obtain ⟨g1, g2, g3, g4⟩ := KEEP.out W3 _ HK3.out ((k1.mono fun _ _ h => .inl h).trans k2 (fun _ _ h => .inr h))
          exact ⟨⟨(HI3.out.box.set (j := 0) (by simp) _).kept k2 (by omega), (HI3.out.box2.kept k1 (by omega)).set (j := 0) (by simp) _, g3, g4⟩, g1, g2⟩)
        clear hq
        gi_wp2
        · have hqe : m1 + 1 = q := by have := HQ2.out; omega
          have := FIN.out
          rw [← hqe] at this
          refine ⟨this.2.1, this.2.2, ?_⟩
          show Num2 A w2 (mf (pre ++ [(i, x)])) _
          rw [HNX2.out, ← hqe]
          exact this.1
        · have hqe : m2 = q := by have := HQ2.out; omega
          have := FIN.out
          rw [← hqe] at this
          refine ⟨this.2.1, this.2.2, ?_⟩
          show Num2 A w2 (mf (pre ++ [(i, x)])) _
          rw [HNX2.out, ← hqe]
          exact this.1
      · have hkb : (x.kind == 1) = false := by simpa using hk
        have HNX2 : Hid (mf (pre ++ [(i, x)]) = (m1 - 1, m2)) := Lib.hid (by rw [HNX.out]; simp [mst, hk])
        clear hk
        gi_wp2_with fail
        refine ⟨trivial, fun h => (by cases h), ?_⟩
        refine (CallsIn.inRound lo (callsIn_wide.2 (launched_is false x _ hkb))).mono ?_
        rintro e W3 ⟨rfl, K3⟩
        have HI3 := Lib.hid (HI.out.same K3)
        have HK3 := Lib.hid K3
        clear c0 c1 c2 c3 c4 c5 c6 c7 dl K3
        have o0 := HI3.out.box.get (j := 0) rfl
        have oz := HI3.out.box.fz 0
        have ol := HI3.out.box.lt
        have FIN : Hid (Num2 A w2 (m1 - 1, m2) (W3.setCell ⟨A, 0, none⟩ (.int .i64 (m1 - 1))) ∧ KeepsFrom w2.heap.size W (W3.setCell ⟨A, 0, none⟩ (.int .i64 (m1 - 1))) ∧ SKp B B2 B3 (.slice aa l.length cap) l W (W3.setCell ⟨A, 0, none⟩ (.int .i64 (m1 - 1)))) := Lib.hid (by
          have k1 : Kept (fun b => b = A) W3 (W3.setCell ⟨A, 0, none⟩ (.int .i64 (m1 - 1))) := (Kept.refl _ _).setCell _ _ (by simp)
          obtain ⟨g1, g2, g3, g4⟩ := KEEP.out W3 _ HK3.out (k1.mono fun _ _ h => .inl h)
          exact ⟨⟨HI3.out.box.set (j := 0) (by simp) _, HI3.out.box2.kept k1 (by omega), g3, g4⟩, g1, g2⟩)
        gi_wp2
        refine ⟨FIN.out.2.1, FIN.out.2.2, ?_⟩
        show Num2 A w2 (mf (pre ++ [(i, x)])) _
        rw [HNX2.out]
        exact FIN.out.1
  · have hb1 : (c != 0) = true := by simpa using hc0
    have hb2 : (c == 0) = false := by simpa using hc0
    have HF : Hid ((if c = 0 then (mf (picks isEnd job l l.length)).2 else 0) = 0) := Lib.hid (by rw [if_neg hc0])
    gi_wp2
    refine ⟨_, results_tmp2 rfl _ _ _, by rw [HF.out]; rfl, HK1.out⟩
end Go.Proofs.Ytfhlllmicobafaa

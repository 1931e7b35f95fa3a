/- TrChkB: texts for the statements of this seat: contracts of functions, walks, plain laws. Conditions: none. -/
import Derived.Test.YtfhlllmicobafaaTrChk
set_option linter.all false
/- event.Check, its last region: class b. -/
namespace Go.Proofs.Ytfhlllmicobafaa
open Go.RowKit
open Tr (Ev)

set_option maxRecDepth 100000 in
set_option maxHeartbeats 4000000 in
theorem chk_b0 (k : Nat) (t job due att run why whn : Int) (u1 u2 u4 u8 u16 : Bool) (hk1 : 1 ≤ k) (hk8 : k ≤ 8) (w : World)
    (e1 : usesB k 1 = u1) (e2 : usesB k 2 = u2) (e4 : usesB k 4 = u4) (e8 : usesB k 8 = u8) (e16 : usesB k 16 = u16) (hc : k ≠ 4 ∧ k ≤ 5) (ht : Tr.vt t = true) (hd : Tr.vt due = true) (hu2 : u2 = true)
    (b0 : inB u1 job 0 63 = false) :
    Calls Try.prog 66 #[evV ⟨k, t, job, due, att, run, why, whn⟩] w fun r w' => r = .returned (.int .i64 2) ∧ Kept (fun _ => False) w w' := by
  subst hu2
  have HK0 := Lib.hid ((Kept.refl (fun _ => False) w).alloc (.cells (evC ⟨k, t, job, due, att, run, why, whn⟩).toArray 35))
  have HROW := Lib.hid (RowAt.new w 35 (evC ⟨k, t, job, due, att, run, why, whn⟩).toArray)
  have U1 := Lib.hid e1
  have U2 := Lib.hid e2
  have U4 := Lib.hid e4
  have U8 := Lib.hid e8
  have U16 := Lib.hid e16
  have HT := Lib.hid ht
  have B0 := Lib.hid b0
  have HD := Lib.hid hd
  have ht0 : 0 ≤ t ∧ t ≤ 253402300799 := by simpa [Tr.vt] using ht
  clear e1 e2 e4 e8 e16 ht b0 hd
  go_enter Try.func66, Try.ntmps66
  go_wp2_with (go_at_call 83; fail)
  refine (kinds_c _).mono ?_
  rintro e w1 ⟨g, rfl, hg1, hg2, hgc, K1⟩
  have HK1 := Lib.hid (HK0.out.trans K1 (fun _ _ h => h))
  have HR1 := Lib.hid (HROW.out.same K1)
  obtain ⟨A, hA⟩ : ∃ A, w.heap.size = A := ⟨_, rfl⟩
  rw [hA] at HR1 ⊢
  clear hA K1 HK0 HROW hg1
  have c0 := HR1.out.get (j := 0) rfl
  have c1 := HR1.out.get (j := 1) rfl
  have c2 := HR1.out.get (j := 2) rfl
  have c3 := HR1.out.get (j := 3) rfl
  have c4 := HR1.out.get (j := 4) rfl
  have c5 := HR1.out.get (j := 5) rfl
  have c6 := HR1.out.get (j := 6) rfl
  have c7 := HR1.out.get (j := 7) rfl
  have hb := HR1.out.lt
  obtain ⟨d0, d1, d2⟩ := kind_cells hgc hk1 hk8
  clear hgc
  have k1 : ¬ (k : Int) < 1 := by omega
  have k2 : (k : Int) < 9 := by omega
  have k3 : ((k : Int) == 4) = false := by simp; omega
  have hw1 : IntKind.i64.wrap (t + 1) = t + 1 := IntWalk.i64_in _ (by omega)
  go_wp2_with (first
    | (go_at_call 85; with_reducible refine (valid_b true t _ HT.out).mono ?_; rintro e w' ⟨rfl, rfl⟩)
    | (go_at_call 85; with_reducible refine (valid_b true due _ HD.out).mono ?_; rintro e w' ⟨rfl, rfl⟩)
    | (go_at_call 84; refine (uses_c (usesK k) 2 true U2.out w1.heap.size _ (by simp)).mono ?_; rintro e w' ⟨rfl, rfl⟩))
  obtain ⟨kb, hkb⟩ : ∃ kb, w1.heap.size = kb := ⟨_, rfl⟩
  have HKK := Lib.hid (HK1.out.alloc (.cells #[Value.string (wordK k), .int .i64 (usesK k), .int .i64 (whyK k)] 105))
  have HROW2 := Lib.hid (RowAt.new w1 105 #[Value.string (wordK k), .int .i64 (usesK k), .int .i64 (whyK k)])
  have HR2 := Lib.hid (HR1.out.same ((Kept.refl (fun _ => False) w1).alloc (.cells #[Value.string (wordK k), .int .i64 (usesK k), .int .i64 (whyK k)] 105)))
  generalize w1.alloc (.cells #[Value.string (wordK k), .int .i64 (usesK k), .int .i64 (whyK k)] 105) = w2 at HKK HROW2 HR2 ⊢
  rw [hkb] at HROW2 ⊢
  clear c0 c1 c2 c3 c4 c5 c6 c7 hb d0 d1 d2 hkb HK1 HR1
  have c1 := HR2.out.get (j := 1) rfl
  have c2 := HR2.out.get (j := 2) rfl
  have c3 := HR2.out.get (j := 3) rfl
  have c4 := HR2.out.get (j := 4) rfl
  have c5 := HR2.out.get (j := 5) rfl
  have c6 := HR2.out.get (j := 6) rfl
  have c7 := HR2.out.get (j := 7) rfl
  have f1 := HROW2.out.get (j := 1) rfl
  have f2 := HROW2.out.get (j := 2) rfl
  have F1 : Hid (∀ n, (w2.drewN n).cell? ⟨kb, 1, none⟩ = some (.int .i64 (usesK k))) := Lib.hid fun n => f1
  refine wp_region_quiet_lit (by kernel_rfl) (by kernel_rfl) ?_
  iterate 1 (go_big_quiet_step (fail))
  go_big_quiet_step (exact quiet_same (uses_c (usesK k) 1 u1 U1.out kb _ (F1.out _)))
  iterate 2 (go_big_quiet_step (fail))
  go_big_quiet_step (exact quiet_same (in_b false u1 job 0 63 _ B0.out))
  iterate 1 (go_big_quiet_step (fail))
  iterate 7 go_big_quiet_skip
  iterate 2 (go_big_quiet_step (fail))
  iterate 6 go_big_quiet_skip
  iterate 2 (go_big_quiet_step (fail))
  iterate 5 go_big_quiet_skip
  iterate 2 (go_big_quiet_step (fail))
  iterate 8 go_big_quiet_skip
  iterate 2 (go_big_quiet_step (fail))
  iterate 7 go_big_quiet_skip
  iterate 1 (go_big_quiet_step (fail))
  refine wpQuiet_nil ?_
  rintro _ ⟨nq, rfl⟩
  go_wp2
  go_ret
  exact ⟨rfl, HKK.out.drewN _⟩

set_option maxRecDepth 100000 in
set_option maxHeartbeats 4000000 in
theorem chk_b1 (k : Nat) (t job due att run why whn : Int) (u1 u2 u4 u8 u16 : Bool) (hk1 : 1 ≤ k) (hk8 : k ≤ 8) (w : World)
    (e1 : usesB k 1 = u1) (e2 : usesB k 2 = u2) (e4 : usesB k 4 = u4) (e8 : usesB k 8 = u8) (e16 : usesB k 16 = u16) (hc : k ≠ 4 ∧ k ≤ 5) (ht : Tr.vt t = true) (hd : Tr.vt due = true) (hu2 : u2 = true)
    (b0 : inB u1 job 0 63 = true) (b1 : inB u2 due 0 t = false) :
    Calls Try.prog 66 #[evV ⟨k, t, job, due, att, run, why, whn⟩] w fun r w' => r = .returned (.int .i64 2) ∧ Kept (fun _ => False) w w' := by
  subst hu2
  have HK0 := Lib.hid ((Kept.refl (fun _ => False) w).alloc (.cells (evC ⟨k, t, job, due, att, run, why, whn⟩).toArray 35))
  have HROW := Lib.hid (RowAt.new w 35 (evC ⟨k, t, job, due, att, run, why, whn⟩).toArray)
  have U1 := Lib.hid e1
  have U2 := Lib.hid e2
  have U4 := Lib.hid e4
  have U8 := Lib.hid e8
  have U16 := Lib.hid e16
  have HT := Lib.hid ht
  have B0 := Lib.hid b0
  have B1 := Lib.hid b1
  have HD := Lib.hid hd
  have ht0 : 0 ≤ t ∧ t ≤ 253402300799 := by simpa [Tr.vt] using ht
  clear e1 e2 e4 e8 e16 ht b0 b1 hd
  go_enter Try.func66, Try.ntmps66
  go_wp2_with (go_at_call 83; fail)
  refine (kinds_c _).mono ?_
  rintro e w1 ⟨g, rfl, hg1, hg2, hgc, K1⟩
  have HK1 := Lib.hid (HK0.out.trans K1 (fun _ _ h => h))
  have HR1 := Lib.hid (HROW.out.same K1)
  obtain ⟨A, hA⟩ : ∃ A, w.heap.size = A := ⟨_, rfl⟩
  rw [hA] at HR1 ⊢
  clear hA K1 HK0 HROW hg1
  have c0 := HR1.out.get (j := 0) rfl
  have c1 := HR1.out.get (j := 1) rfl
  have c2 := HR1.out.get (j := 2) rfl
  have c3 := HR1.out.get (j := 3) rfl
  have c4 := HR1.out.get (j := 4) rfl
  have c5 := HR1.out.get (j := 5) rfl
  have c6 := HR1.out.get (j := 6) rfl
  have c7 := HR1.out.get (j := 7) rfl
  have hb := HR1.out.lt
  obtain ⟨d0, d1, d2⟩ := kind_cells hgc hk1 hk8
  clear hgc
  have k1 : ¬ (k : Int) < 1 := by omega
  have k2 : (k : Int) < 9 := by omega
  have k3 : ((k : Int) == 4) = false := by simp; omega
  have hw1 : IntKind.i64.wrap (t + 1) = t + 1 := IntWalk.i64_in _ (by omega)
  go_wp2_with (first
    | (go_at_call 85; with_reducible refine (valid_b true t _ HT.out).mono ?_; rintro e w' ⟨rfl, rfl⟩)
    | (go_at_call 85; with_reducible refine (valid_b true due _ HD.out).mono ?_; rintro e w' ⟨rfl, rfl⟩)
    | (go_at_call 84; refine (uses_c (usesK k) 2 true U2.out w1.heap.size _ (by simp)).mono ?_; rintro e w' ⟨rfl, rfl⟩))
  obtain ⟨kb, hkb⟩ : ∃ kb, w1.heap.size = kb := ⟨_, rfl⟩
  have HKK := Lib.hid (HK1.out.alloc (.cells #[Value.string (wordK k), .int .i64 (usesK k), .int .i64 (whyK k)] 105))
  have HROW2 := Lib.hid (RowAt.new w1 105 #[Value.string (wordK k), .int .i64 (usesK k), .int .i64 (whyK k)])
  have HR2 := Lib.hid (HR1.out.same ((Kept.refl (fun _ => False) w1).alloc (.cells #[Value.string (wordK k), .int .i64 (usesK k), .int .i64 (whyK k)] 105)))
  generalize w1.alloc (.cells #[Value.string (wordK k), .int .i64 (usesK k), .int .i64 (whyK k)] 105) = w2 at HKK HROW2 HR2 ⊢
  rw [hkb] at HROW2 ⊢
  clear c0 c1 c2 c3 c4 c5 c6 c7 hb d0 d1 d2 hkb HK1 HR1
  have c1 := HR2.out.get (j := 1) rfl
  have c2 := HR2.out.get (j := 2) rfl
  have c3 := HR2.out.get (j := 3) rfl
  have c4 := HR2.out.get (j := 4) rfl
  have c5 := HR2.out.get (j := 5) rfl
  have c6 := HR2.out.get (j := 6) rfl
  have c7 := HR2.out.get (j := 7) rfl
  have f1 := HROW2.out.get (j := 1) rfl
  have f2 := HROW2.out.get (j := 2) rfl
  have F1 : Hid (∀ n, (w2.drewN n).cell? ⟨kb, 1, none⟩ = some (.int .i64 (usesK k))) := Lib.hid fun n => f1
  refine wp_region_quiet_lit (by kernel_rfl) (by kernel_rfl) ?_
  iterate 1 (go_big_quiet_step (fail))
  go_big_quiet_step (exact quiet_same (uses_c (usesK k) 1 u1 U1.out kb _ (F1.out _)))
  iterate 2 (go_big_quiet_step (fail))
  go_big_quiet_step (exact quiet_same (in_b true u1 job 0 63 _ B0.out))
  iterate 1 (go_big_quiet_step (fail))
  iterate 1 (go_big_quiet_step (fail))
  go_big_quiet_step (exact quiet_same (uses_c (usesK k) 2 true U2.out kb _ (F1.out _)))
  iterate 4 (go_big_quiet_step (fail))
  go_big_quiet_step (exact quiet_same (in_b false true due 0 t _ B1.out))
  iterate 2 (go_big_quiet_step (fail))
  iterate 6 go_big_quiet_skip
  iterate 2 (go_big_quiet_step (fail))
  iterate 5 go_big_quiet_skip
  iterate 2 (go_big_quiet_step (fail))
  iterate 8 go_big_quiet_skip
  iterate 2 (go_big_quiet_step (fail))
  iterate 7 go_big_quiet_skip
  iterate 1 (go_big_quiet_step (fail))
  refine wpQuiet_nil ?_
  rintro _ ⟨nq, rfl⟩
  go_wp2
  go_ret
  exact ⟨rfl, HKK.out.drewN _⟩

set_option maxRecDepth 100000 in
set_option maxHeartbeats 4000000 in
theorem chk_b2 (k : Nat) (t job due att run why whn : Int) (u1 u2 u4 u8 u16 : Bool) (hk1 : 1 ≤ k) (hk8 : k ≤ 8) (w : World)
    (e1 : usesB k 1 = u1) (e2 : usesB k 2 = u2) (e4 : usesB k 4 = u4) (e8 : usesB k 8 = u8) (e16 : usesB k 16 = u16) (hc : k ≠ 4 ∧ k ≤ 5) (ht : Tr.vt t = true) (hd : Tr.vt due = true) (hu2 : u2 = true)
    (b0 : inB u1 job 0 63 = true) (b1 : inB u2 due 0 t = true) (b2 : inB u2 att 1 21 = false) :
    Calls Try.prog 66 #[evV ⟨k, t, job, due, att, run, why, whn⟩] w fun r w' => r = .returned (.int .i64 2) ∧ Kept (fun _ => False) w w' := by
  subst hu2
  have HK0 := Lib.hid ((Kept.refl (fun _ => False) w).alloc (.cells (evC ⟨k, t, job, due, att, run, why, whn⟩).toArray 35))
  have HROW := Lib.hid (RowAt.new w 35 (evC ⟨k, t, job, due, att, run, why, whn⟩).toArray)
  have U1 := Lib.hid e1
  have U2 := Lib.hid e2
  have U4 := Lib.hid e4
  have U8 := Lib.hid e8
  have U16 := Lib.hid e16
  have HT := Lib.hid ht
  have B0 := Lib.hid b0
  have B1 := Lib.hid b1
  have B2 := Lib.hid b2
  have HD := Lib.hid hd
  have ht0 : 0 ≤ t ∧ t ≤ 253402300799 := by simpa [Tr.vt] using ht
  clear e1 e2 e4 e8 e16 ht b0 b1 b2 hd
  go_enter Try.func66, Try.ntmps66
  go_wp2_with (go_at_call 83; fail)
  refine (kinds_c _).mono ?_
  rintro e w1 ⟨g, rfl, hg1, hg2, hgc, K1⟩
  have HK1 := Lib.hid (HK0.out.trans K1 (fun _ _ h => h))
  have HR1 := Lib.hid (HROW.out.same K1)
  obtain ⟨A, hA⟩ : ∃ A, w.heap.size = A := ⟨_, rfl⟩
  rw [hA] at HR1 ⊢
  clear hA K1 HK0 HROW hg1
  have c0 := HR1.out.get (j := 0) rfl
  have c1 := HR1.out.get (j := 1) rfl
  have c2 := HR1.out.get (j := 2) rfl
  have c3 := HR1.out.get (j := 3) rfl
  have c4 := HR1.out.get (j := 4) rfl
  have c5 := HR1.out.get (j := 5) rfl
  have c6 := HR1.out.get (j := 6) rfl
  have c7 := HR1.out.get (j := 7) rfl
  have hb := HR1.out.lt
  obtain ⟨d0, d1, d2⟩ := kind_cells hgc hk1 hk8
  clear hgc
  have k1 : ¬ (k : Int) < 1 := by omega
  have k2 : (k : Int) < 9 := by omega
  have k3 : ((k : Int) == 4) = false := by simp; omega
  have hw1 : IntKind.i64.wrap (t + 1) = t + 1 := IntWalk.i64_in _ (by omega)
  go_wp2_with (first
    | (go_at_call 85; with_reducible refine (valid_b true t _ HT.out).mono ?_; rintro e w' ⟨rfl, rfl⟩)
    | (go_at_call 85; with_reducible refine (valid_b true due _ HD.out).mono ?_; rintro e w' ⟨rfl, rfl⟩)
    | (go_at_call 84; refine (uses_c (usesK k) 2 true U2.out w1.heap.size _ (by simp)).mono ?_; rintro e w' ⟨rfl, rfl⟩))
  obtain ⟨kb, hkb⟩ : ∃ kb, w1.heap.size = kb := ⟨_, rfl⟩
  have HKK := Lib.hid (HK1.out.alloc (.cells #[Value.string (wordK k), .int .i64 (usesK k), .int .i64 (whyK k)] 105))
  have HROW2 := Lib.hid (RowAt.new w1 105 #[Value.string (wordK k), .int .i64 (usesK k), .int .i64 (whyK k)])
  have HR2 := Lib.hid (HR1.out.same ((Kept.refl (fun _ => False) w1).alloc (.cells #[Value.string (wordK k), .int .i64 (usesK k), .int .i64 (whyK k)] 105)))
  generalize w1.alloc (.cells #[Value.string (wordK k), .int .i64 (usesK k), .int .i64 (whyK k)] 105) = w2 at HKK HROW2 HR2 ⊢
  rw [hkb] at HROW2 ⊢
  clear c0 c1 c2 c3 c4 c5 c6 c7 hb d0 d1 d2 hkb HK1 HR1
  have c1 := HR2.out.get (j := 1) rfl
  have c2 := HR2.out.get (j := 2) rfl
  have c3 := HR2.out.get (j := 3) rfl
  have c4 := HR2.out.get (j := 4) rfl
  have c5 := HR2.out.get (j := 5) rfl
  have c6 := HR2.out.get (j := 6) rfl
  have c7 := HR2.out.get (j := 7) rfl
  have f1 := HROW2.out.get (j := 1) rfl
  have f2 := HROW2.out.get (j := 2) rfl
  have F1 : Hid (∀ n, (w2.drewN n).cell? ⟨kb, 1, none⟩ = some (.int .i64 (usesK k))) := Lib.hid fun n => f1
  refine wp_region_quiet_lit (by kernel_rfl) (by kernel_rfl) ?_
  iterate 1 (go_big_quiet_step (fail))
  go_big_quiet_step (exact quiet_same (uses_c (usesK k) 1 u1 U1.out kb _ (F1.out _)))
  iterate 2 (go_big_quiet_step (fail))
  go_big_quiet_step (exact quiet_same (in_b true u1 job 0 63 _ B0.out))
  iterate 1 (go_big_quiet_step (fail))
  iterate 1 (go_big_quiet_step (fail))
  go_big_quiet_step (exact quiet_same (uses_c (usesK k) 2 true U2.out kb _ (F1.out _)))
  iterate 4 (go_big_quiet_step (fail))
  go_big_quiet_step (exact quiet_same (in_b true true due 0 t _ B1.out))
  iterate 2 (go_big_quiet_step (fail))
  iterate 1 (go_big_quiet_step (fail))
  go_big_quiet_step (exact quiet_same (uses_c (usesK k) 2 true U2.out kb _ (F1.out _)))
  iterate 3 (go_big_quiet_step (fail))
  go_big_quiet_step (exact quiet_same (in_b false true att 1 21 _ B2.out))
  iterate 2 (go_big_quiet_step (fail))
  iterate 5 go_big_quiet_skip
  iterate 2 (go_big_quiet_step (fail))
  iterate 8 go_big_quiet_skip
  iterate 2 (go_big_quiet_step (fail))
  iterate 7 go_big_quiet_skip
  iterate 1 (go_big_quiet_step (fail))
  refine wpQuiet_nil ?_
  rintro _ ⟨nq, rfl⟩
  go_wp2
  go_ret
  exact ⟨rfl, HKK.out.drewN _⟩

set_option maxRecDepth 100000 in
set_option maxHeartbeats 4000000 in
theorem chk_b3 (k : Nat) (t job due att run why whn : Int) (u1 u2 u4 u8 u16 : Bool) (hk1 : 1 ≤ k) (hk8 : k ≤ 8) (w : World)
    (e1 : usesB k 1 = u1) (e2 : usesB k 2 = u2) (e4 : usesB k 4 = u4) (e8 : usesB k 8 = u8) (e16 : usesB k 16 = u16) (hc : k ≠ 4 ∧ k ≤ 5) (ht : Tr.vt t = true) (hd : Tr.vt due = true) (hu2 : u2 = true)
    (b0 : inB u1 job 0 63 = true) (b1 : inB u2 due 0 t = true) (b2 : inB u2 att 1 21 = true) (b3 : inB u4 run 1 9223372036854775807 = false) :
    Calls Try.prog 66 #[evV ⟨k, t, job, due, att, run, why, whn⟩] w fun r w' => r = .returned (.int .i64 2) ∧ Kept (fun _ => False) w w' := by
  subst hu2
  have HK0 := Lib.hid ((Kept.refl (fun _ => False) w).alloc (.cells (evC ⟨k, t, job, due, att, run, why, whn⟩).toArray 35))
  have HROW := Lib.hid (RowAt.new w 35 (evC ⟨k, t, job, due, att, run, why, whn⟩).toArray)
  have U1 := Lib.hid e1
  have U2 := Lib.hid e2
  have U4 := Lib.hid e4
  have U8 := Lib.hid e8
  have U16 := Lib.hid e16
  have HT := Lib.hid ht
  have B0 := Lib.hid b0
  have B1 := Lib.hid b1
  have B2 := Lib.hid b2
  have B3 := Lib.hid b3
  have HD := Lib.hid hd
  have ht0 : 0 ≤ t ∧ t ≤ 253402300799 := by simpa [Tr.vt] using ht
  clear e1 e2 e4 e8 e16 ht b0 b1 b2 b3 hd
  go_enter Try.func66, Try.ntmps66
  go_wp2_with (go_at_call 83; fail)
  refine (kinds_c _).mono ?_
  rintro e w1 ⟨g, rfl, hg1, hg2, hgc, K1⟩
  have HK1 := Lib.hid (HK0.out.trans K1 (fun _ _ h => h))
  have HR1 := Lib.hid (HROW.out.same K1)
  obtain ⟨A, hA⟩ : ∃ A, w.heap.size = A := ⟨_, rfl⟩
  rw [hA] at HR1 ⊢
  clear hA K1 HK0 HROW hg1
  have c0 := HR1.out.get (j := 0) rfl
  have c1 := HR1.out.get (j := 1) rfl
  have c2 := HR1.out.get (j := 2) rfl
  have c3 := HR1.out.get (j := 3) rfl
  have c4 := HR1.out.get (j := 4) rfl
  have c5 := HR1.out.get (j := 5) rfl
  have c6 := HR1.out.get (j := 6) rfl
  have c7 := HR1.out.get (j := 7) rfl
  have hb := HR1.out.lt
  obtain ⟨d0, d1, d2⟩ := kind_cells hgc hk1 hk8
  clear hgc
  have k1 : ¬ (k : Int) < 1 := by omega
  have k2 : (k : Int) < 9 := by omega
  have k3 : ((k : Int) == 4) = false := by simp; omega
  have hw1 : IntKind.i64.wrap (t + 1) = t + 1 := IntWalk.i64_in _ (by omega)
  go_wp2_with (first
    | (go_at_call 85; with_reducible refine (valid_b true t _ HT.out).mono ?_; rintro e w' ⟨rfl, rfl⟩)
    | (go_at_call 85; with_reducible refine (valid_b true due _ HD.out).mono ?_; rintro e w' ⟨rfl, rfl⟩)
    | (go_at_call 84; refine (uses_c (usesK k) 2 true U2.out w1.heap.size _ (by simp)).mono ?_; rintro e w' ⟨rfl, rfl⟩))
  obtain ⟨kb, hkb⟩ : ∃ kb, w1.heap.size = kb := ⟨_, rfl⟩
  have HKK := Lib.hid (HK1.out.alloc (.cells #[Value.string (wordK k), .int .i64 (usesK k), .int .i64 (whyK k)] 105))
  have HROW2 := Lib.hid (RowAt.new w1 105 #[Value.string (wordK k), .int .i64 (usesK k), .int .i64 (whyK k)])
  have HR2 := Lib.hid (HR1.out.same ((Kept.refl (fun _ => False) w1).alloc (.cells #[Value.string (wordK k), .int .i64 (usesK k), .int .i64 (whyK k)] 105)))
  generalize w1.alloc (.cells #[Value.string (wordK k), .int .i64 (usesK k), .int .i64 (whyK k)] 105) = w2 at HKK HROW2 HR2 ⊢
  rw [hkb] at HROW2 ⊢
  clear c0 c1 c2 c3 c4 c5 c6 c7 hb d0 d1 d2 hkb HK1 HR1
  have c1 := HR2.out.get (j := 1) rfl
  have c2 := HR2.out.get (j := 2) rfl
  have c3 := HR2.out.get (j := 3) rfl
  have c4 := HR2.out.get (j := 4) rfl
  have c5 := HR2.out.get (j := 5) rfl
  have c6 := HR2.out.get (j := 6) rfl
  have c7 := HR2.out.get (j := 7) rfl
  have f1 := HROW2.out.get (j := 1) rfl
  have f2 := HROW2.out.get (j := 2) rfl
  have F1 : Hid (∀ n, (w2.drewN n).cell? ⟨kb, 1, none⟩ = some (.int .i64 (usesK k))) := Lib.hid fun n => f1
  refine wp_region_quiet_lit (by kernel_rfl) (by kernel_rfl) ?_
  iterate 1 (go_big_quiet_step (fail))
  go_big_quiet_step (exact quiet_same (uses_c (usesK k) 1 u1 U1.out kb _ (F1.out _)))
  iterate 2 (go_big_quiet_step (fail))
  go_big_quiet_step (exact quiet_same (in_b true u1 job 0 63 _ B0.out))
  iterate 1 (go_big_quiet_step (fail))
  iterate 1 (go_big_quiet_step (fail))
  go_big_quiet_step (exact quiet_same (uses_c (usesK k) 2 true U2.out kb _ (F1.out _)))
  iterate 4 (go_big_quiet_step (fail))
  go_big_quiet_step (exact quiet_same (in_b true true due 0 t _ B1.out))
  iterate 2 (go_big_quiet_step (fail))
  iterate 1 (go_big_quiet_step (fail))
  go_big_quiet_step (exact quiet_same (uses_c (usesK k) 2 true U2.out kb _ (F1.out _)))
  iterate 3 (go_big_quiet_step (fail))
  go_big_quiet_step (exact quiet_same (in_b true true att 1 21 _ B2.out))
  iterate 2 (go_big_quiet_step (fail))
  iterate 1 (go_big_quiet_step (fail))
  go_big_quiet_step (exact quiet_same (uses_c (usesK k) 4 u4 U4.out kb _ (F1.out _)))
  iterate 2 (go_big_quiet_step (fail))
  go_big_quiet_step (exact quiet_same (in_b false u4 run 1 9223372036854775807 _ B3.out))
  iterate 2 (go_big_quiet_step (fail))
  iterate 8 go_big_quiet_skip
  iterate 2 (go_big_quiet_step (fail))
  iterate 7 go_big_quiet_skip
  iterate 1 (go_big_quiet_step (fail))
  refine wpQuiet_nil ?_
  rintro _ ⟨nq, rfl⟩
  go_wp2
  go_ret
  exact ⟨rfl, HKK.out.drewN _⟩

set_option maxRecDepth 100000 in
set_option maxHeartbeats 4000000 in
theorem chk_b4 (k : Nat) (t job due att run why whn : Int) (u1 u2 u4 u8 u16 : Bool) (hk1 : 1 ≤ k) (hk8 : k ≤ 8) (w : World)
    (e1 : usesB k 1 = u1) (e2 : usesB k 2 = u2) (e4 : usesB k 4 = u4) (e8 : usesB k 8 = u8) (e16 : usesB k 16 = u16) (hc : k ≠ 4 ∧ k ≤ 5) (ht : Tr.vt t = true) (hd : Tr.vt due = true) (hu2 : u2 = true)
    (b0 : inB u1 job 0 63 = true) (b1 : inB u2 due 0 t = true) (b2 : inB u2 att 1 21 = true) (b3 : inB u4 run 1 9223372036854775807 = true) (b4 : inB u8 whn (t + 1) 4611686018427387904 = false) :
    Calls Try.prog 66 #[evV ⟨k, t, job, due, att, run, why, whn⟩] w fun r w' => r = .returned (.int .i64 2) ∧ Kept (fun _ => False) w w' := by
  subst hu2
  have HK0 := Lib.hid ((Kept.refl (fun _ => False) w).alloc (.cells (evC ⟨k, t, job, due, att, run, why, whn⟩).toArray 35))
  have HROW := Lib.hid (RowAt.new w 35 (evC ⟨k, t, job, due, att, run, why, whn⟩).toArray)
  have U1 := Lib.hid e1
  have U2 := Lib.hid e2
  have U4 := Lib.hid e4
  have U8 := Lib.hid e8
  have U16 := Lib.hid e16
  have HT := Lib.hid ht
  have B0 := Lib.hid b0
  have B1 := Lib.hid b1
  have B2 := Lib.hid b2
  have B3 := Lib.hid b3
  have B4 := Lib.hid b4
  have HD := Lib.hid hd
  have ht0 : 0 ≤ t ∧ t ≤ 253402300799 := by simpa [Tr.vt] using ht
  clear e1 e2 e4 e8 e16 ht b0 b1 b2 b3 b4 hd
  go_enter Try.func66, Try.ntmps66
  go_wp2_with (go_at_call 83; fail)
  refine (kinds_c _).mono ?_
  rintro e w1 ⟨g, rfl, hg1, hg2, hgc, K1⟩
  have HK1 := Lib.hid (HK0.out.trans K1 (fun _ _ h => h))
  have HR1 := Lib.hid (HROW.out.same K1)
  obtain ⟨A, hA⟩ : ∃ A, w.heap.size = A := ⟨_, rfl⟩
  rw [hA] at HR1 ⊢
  clear hA K1 HK0 HROW hg1
  have c0 := HR1.out.get (j := 0) rfl
  have c1 := HR1.out.get (j := 1) rfl
  have c2 := HR1.out.get (j := 2) rfl
  have c3 := HR1.out.get (j := 3) rfl
  have c4 := HR1.out.get (j := 4) rfl
  have c5 := HR1.out.get (j := 5) rfl
  have c6 := HR1.out.get (j := 6) rfl
  have c7 := HR1.out.get (j := 7) rfl
  have hb := HR1.out.lt
  obtain ⟨d0, d1, d2⟩ := kind_cells hgc hk1 hk8
  clear hgc
  have k1 : ¬ (k : Int) < 1 := by omega
  have k2 : (k : Int) < 9 := by omega
  have k3 : ((k : Int) == 4) = false := by simp; omega
  have hw1 : IntKind.i64.wrap (t + 1) = t + 1 := IntWalk.i64_in _ (by omega)
  go_wp2_with (first
    | (go_at_call 85; with_reducible refine (valid_b true t _ HT.out).mono ?_; rintro e w' ⟨rfl, rfl⟩)
    | (go_at_call 85; with_reducible refine (valid_b true due _ HD.out).mono ?_; rintro e w' ⟨rfl, rfl⟩)
    | (go_at_call 84; refine (uses_c (usesK k) 2 true U2.out w1.heap.size _ (by simp)).mono ?_; rintro e w' ⟨rfl, rfl⟩))
  obtain ⟨kb, hkb⟩ : ∃ kb, w1.heap.size = kb := ⟨_, rfl⟩
  have HKK := Lib.hid (HK1.out.alloc (.cells #[Value.string (wordK k), .int .i64 (usesK k), .int .i64 (whyK k)] 105))
  have HROW2 := Lib.hid (RowAt.new w1 105 #[Value.string (wordK k), .int .i64 (usesK k), .int .i64 (whyK k)])
  have HR2 := Lib.hid (HR1.out.same ((Kept.refl (fun _ => False) w1).alloc (.cells #[Value.string (wordK k), .int .i64 (usesK k), .int .i64 (whyK k)] 105)))
  generalize w1.alloc (.cells #[Value.string (wordK k), .int .i64 (usesK k), .int .i64 (whyK k)] 105) = w2 at HKK HROW2 HR2 ⊢
  rw [hkb] at HROW2 ⊢
  clear c0 c1 c2 c3 c4 c5 c6 c7 hb d0 d1 d2 hkb HK1 HR1
  have c1 := HR2.out.get (j := 1) rfl
  have c2 := HR2.out.get (j := 2) rfl
  have c3 := HR2.out.get (j := 3) rfl
  have c4 := HR2.out.get (j := 4) rfl
  have c5 := HR2.out.get (j := 5) rfl
  have c6 := HR2.out.get (j := 6) rfl
  have c7 := HR2.out.get (j := 7) rfl
  have f1 := HROW2.out.get (j := 1) rfl
  have f2 := HROW2.out.get (j := 2) rfl
  have F1 : Hid (∀ n, (w2.drewN n).cell? ⟨kb, 1, none⟩ = some (.int .i64 (usesK k))) := Lib.hid fun n => f1
  refine wp_region_quiet_lit (by kernel_rfl) (by kernel_rfl) ?_
  iterate 1 (go_big_quiet_step (fail))
  go_big_quiet_step (exact quiet_same (uses_c (usesK k) 1 u1 U1.out kb _ (F1.out _)))
  iterate 2 (go_big_quiet_step (fail))
  go_big_quiet_step (exact quiet_same (in_b true u1 job 0 63 _ B0.out))
  iterate 1 (go_big_quiet_step (fail))
  iterate 1 (go_big_quiet_step (fail))
  go_big_quiet_step (exact quiet_same (uses_c (usesK k) 2 true U2.out kb _ (F1.out _)))
  iterate 4 (go_big_quiet_step (fail))
  go_big_quiet_step (exact quiet_same (in_b true true due 0 t _ B1.out))
  iterate 2 (go_big_quiet_step (fail))
  iterate 1 (go_big_quiet_step (fail))
  go_big_quiet_step (exact quiet_same (uses_c (usesK k) 2 true U2.out kb _ (F1.out _)))
  iterate 3 (go_big_quiet_step (fail))
  go_big_quiet_step (exact quiet_same (in_b true true att 1 21 _ B2.out))
  iterate 2 (go_big_quiet_step (fail))
  iterate 1 (go_big_quiet_step (fail))
  go_big_quiet_step (exact quiet_same (uses_c (usesK k) 4 u4 U4.out kb _ (F1.out _)))
  iterate 2 (go_big_quiet_step (fail))
  go_big_quiet_step (exact quiet_same (in_b true u4 run 1 9223372036854775807 _ B3.out))
  iterate 2 (go_big_quiet_step (fail))
  iterate 1 (go_big_quiet_step (fail))
  go_big_quiet_step (exact quiet_same (uses_c (usesK k) 8 u8 U8.out kb _ (F1.out _)))
  iterate 5 (go_big_quiet_step (fail))
  go_big_quiet_step (exact quiet_same (in_b false u8 whn (t + 1) 4611686018427387904 _ B4.out))
  iterate 2 (go_big_quiet_step (fail))
  iterate 7 go_big_quiet_skip
  iterate 1 (go_big_quiet_step (fail))
  refine wpQuiet_nil ?_
  rintro _ ⟨nq, rfl⟩
  go_wp2
  go_ret
  exact ⟨rfl, HKK.out.drewN _⟩

set_option maxRecDepth 100000 in
set_option maxHeartbeats 4000000 in
theorem chk_b5 (k : Nat) (t job due att run why whn : Int) (u1 u2 u4 u8 u16 : Bool) (hk1 : 1 ≤ k) (hk8 : k ≤ 8) (w : World)
    (e1 : usesB k 1 = u1) (e2 : usesB k 2 = u2) (e4 : usesB k 4 = u4) (e8 : usesB k 8 = u8) (e16 : usesB k 16 = u16) (hc : k ≠ 4 ∧ k ≤ 5) (ht : Tr.vt t = true) (hd : Tr.vt due = true) (hu2 : u2 = true)
    (b0 : inB u1 job 0 63 = true) (b1 : inB u2 due 0 t = true) (b2 : inB u2 att 1 21 = true) (b3 : inB u4 run 1 9223372036854775807 = true) (b4 : inB u8 whn (t + 1) 4611686018427387904 = true) (b5 : inB u16 why 1 (whyK k) = false) :
    Calls Try.prog 66 #[evV ⟨k, t, job, due, att, run, why, whn⟩] w fun r w' => r = .returned (.int .i64 2) ∧ Kept (fun _ => False) w w' := by
  subst hu2
  have HK0 := Lib.hid ((Kept.refl (fun _ => False) w).alloc (.cells (evC ⟨k, t, job, due, att, run, why, whn⟩).toArray 35))
  have HROW := Lib.hid (RowAt.new w 35 (evC ⟨k, t, job, due, att, run, why, whn⟩).toArray)
  have U1 := Lib.hid e1
  have U2 := Lib.hid e2
  have U4 := Lib.hid e4
  have U8 := Lib.hid e8
  have U16 := Lib.hid e16
  have HT := Lib.hid ht
  have B0 := Lib.hid b0
  have B1 := Lib.hid b1
  have B2 := Lib.hid b2
  have B3 := Lib.hid b3
  have B4 := Lib.hid b4
  have B5 := Lib.hid b5
  have HD := Lib.hid hd
  have ht0 : 0 ≤ t ∧ t ≤ 253402300799 := by simpa [Tr.vt] using ht
  clear e1 e2 e4 e8 e16 ht b0 b1 b2 b3 b4 b5 hd
  go_enter Try.func66, Try.ntmps66
  go_wp2_with (go_at_call 83; fail)
  refine (kinds_c _).mono ?_
  rintro e w1 ⟨g, rfl, hg1, hg2, hgc, K1⟩
  have HK1 := Lib.hid (HK0.out.trans K1 (fun _ _ h => h))
  have HR1 := Lib.hid (HROW.out.same K1)
  obtain ⟨A, hA⟩ : ∃ A, w.heap.size = A := ⟨_, rfl⟩
  rw [hA] at HR1 ⊢
  clear hA K1 HK0 HROW hg1
  have c0 := HR1.out.get (j := 0) rfl
  have c1 := HR1.out.get (j := 1) rfl
  have c2 := HR1.out.get (j := 2) rfl
  have c3 := HR1.out.get (j := 3) rfl
  have c4 := HR1.out.get (j := 4) rfl
  have c5 := HR1.out.get (j := 5) rfl
  have c6 := HR1.out.get (j := 6) rfl
  have c7 := HR1.out.get (j := 7) rfl
  have hb := HR1.out.lt
  obtain ⟨d0, d1, d2⟩ := kind_cells hgc hk1 hk8
  clear hgc
  have k1 : ¬ (k : Int) < 1 := by omega
  have k2 : (k : Int) < 9 := by omega
  have k3 : ((k : Int) == 4) = false := by simp; omega
  have hw1 : IntKind.i64.wrap (t + 1) = t + 1 := IntWalk.i64_in _ (by omega)
  go_wp2_with (first
    | (go_at_call 85; with_reducible refine (valid_b true t _ HT.out).mono ?_; rintro e w' ⟨rfl, rfl⟩)
    | (go_at_call 85; with_reducible refine (valid_b true due _ HD.out).mono ?_; rintro e w' ⟨rfl, rfl⟩)
    | (go_at_call 84; refine (uses_c (usesK k) 2 true U2.out w1.heap.size _ (by simp)).mono ?_; rintro e w' ⟨rfl, rfl⟩))
  obtain ⟨kb, hkb⟩ : ∃ kb, w1.heap.size = kb := ⟨_, rfl⟩
  have HKK := Lib.hid (HK1.out.alloc (.cells #[Value.string (wordK k), .int .i64 (usesK k), .int .i64 (whyK k)] 105))
  have HROW2 := Lib.hid (RowAt.new w1 105 #[Value.string (wordK k), .int .i64 (usesK k), .int .i64 (whyK k)])
  have HR2 := Lib.hid (HR1.out.same ((Kept.refl (fun _ => False) w1).alloc (.cells #[Value.string (wordK k), .int .i64 (usesK k), .int .i64 (whyK k)] 105)))
  generalize w1.alloc (.cells #[Value.string (wordK k), .int .i64 (usesK k), .int .i64 (whyK k)] 105) = w2 at HKK HROW2 HR2 ⊢
  rw [hkb] at HROW2 ⊢
  clear c0 c1 c2 c3 c4 c5 c6 c7 hb d0 d1 d2 hkb HK1 HR1
  have c1 := HR2.out.get (j := 1) rfl
  have c2 := HR2.out.get (j := 2) rfl
  have c3 := HR2.out.get (j := 3) rfl
  have c4 := HR2.out.get (j := 4) rfl
  have c5 := HR2.out.get (j := 5) rfl
  have c6 := HR2.out.get (j := 6) rfl
  have c7 := HR2.out.get (j := 7) rfl
  have f1 := HROW2.out.get (j := 1) rfl
  have f2 := HROW2.out.get (j := 2) rfl
  have F1 : Hid (∀ n, (w2.drewN n).cell? ⟨kb, 1, none⟩ = some (.int .i64 (usesK k))) := Lib.hid fun n => f1
  refine wp_region_quiet_lit (by kernel_rfl) (by kernel_rfl) ?_
  iterate 1 (go_big_quiet_step (fail))
  go_big_quiet_step (exact quiet_same (uses_c (usesK k) 1 u1 U1.out kb _ (F1.out _)))
  iterate 2 (go_big_quiet_step (fail))
  go_big_quiet_step (exact quiet_same (in_b true u1 job 0 63 _ B0.out))
  iterate 1 (go_big_quiet_step (fail))
  iterate 1 (go_big_quiet_step (fail))
  go_big_quiet_step (exact quiet_same (uses_c (usesK k) 2 true U2.out kb _ (F1.out _)))
  iterate 4 (go_big_quiet_step (fail))
  go_big_quiet_step (exact quiet_same (in_b true true due 0 t _ B1.out))
  iterate 2 (go_big_quiet_step (fail))
  iterate 1 (go_big_quiet_step (fail))
  go_big_quiet_step (exact quiet_same (uses_c (usesK k) 2 true U2.out kb _ (F1.out _)))
  iterate 3 (go_big_quiet_step (fail))
  go_big_quiet_step (exact quiet_same (in_b true true att 1 21 _ B2.out))
  iterate 2 (go_big_quiet_step (fail))
  iterate 1 (go_big_quiet_step (fail))
  go_big_quiet_step (exact quiet_same (uses_c (usesK k) 4 u4 U4.out kb _ (F1.out _)))
  iterate 2 (go_big_quiet_step (fail))
  go_big_quiet_step (exact quiet_same (in_b true u4 run 1 9223372036854775807 _ B3.out))
  iterate 2 (go_big_quiet_step (fail))
  iterate 1 (go_big_quiet_step (fail))
  go_big_quiet_step (exact quiet_same (uses_c (usesK k) 8 u8 U8.out kb _ (F1.out _)))
  iterate 5 (go_big_quiet_step (fail))
  go_big_quiet_step (exact quiet_same (in_b true u8 whn (t + 1) 4611686018427387904 _ B4.out))
  iterate 2 (go_big_quiet_step (fail))
  iterate 1 (go_big_quiet_step (fail))
  go_big_quiet_step (exact quiet_same (uses_c (usesK k) 16 u16 U16.out kb _ (F1.out _)))
  iterate 4 (go_big_quiet_step (fail))
  go_big_quiet_step (exact quiet_same (in_b false u16 why 1 (whyK k) _ B5.out))
  iterate 1 (go_big_quiet_step (fail))
  refine wpQuiet_nil ?_
  rintro _ ⟨nq, rfl⟩
  go_wp2
  go_ret
  exact ⟨rfl, HKK.out.drewN _⟩

set_option maxRecDepth 100000 in
set_option maxHeartbeats 4000000 in
theorem chk_b6 (k : Nat) (t job due att run why whn : Int) (u1 u2 u4 u8 u16 : Bool) (hk1 : 1 ≤ k) (hk8 : k ≤ 8) (w : World)
    (e1 : usesB k 1 = u1) (e2 : usesB k 2 = u2) (e4 : usesB k 4 = u4) (e8 : usesB k 8 = u8) (e16 : usesB k 16 = u16) (hc : k ≠ 4 ∧ k ≤ 5) (ht : Tr.vt t = true) (hd : Tr.vt due = true) (hu2 : u2 = true)
    (b0 : inB u1 job 0 63 = true) (b1 : inB u2 due 0 t = true) (b2 : inB u2 att 1 21 = true) (b3 : inB u4 run 1 9223372036854775807 = true) (b4 : inB u8 whn (t + 1) 4611686018427387904 = true) (b5 : inB u16 why 1 (whyK k) = true) :
    Calls Try.prog 66 #[evV ⟨k, t, job, due, att, run, why, whn⟩] w fun r w' => r = .returned (.int .i64 0) ∧ Kept (fun _ => False) w w' := by
  subst hu2
  have HK0 := Lib.hid ((Kept.refl (fun _ => False) w).alloc (.cells (evC ⟨k, t, job, due, att, run, why, whn⟩).toArray 35))
  have HROW := Lib.hid (RowAt.new w 35 (evC ⟨k, t, job, due, att, run, why, whn⟩).toArray)
  have U1 := Lib.hid e1
  have U2 := Lib.hid e2
  have U4 := Lib.hid e4
  have U8 := Lib.hid e8
  have U16 := Lib.hid e16
  have HT := Lib.hid ht
  have B0 := Lib.hid b0
  have B1 := Lib.hid b1
  have B2 := Lib.hid b2
  have B3 := Lib.hid b3
  have B4 := Lib.hid b4
  have B5 := Lib.hid b5
  have HD := Lib.hid hd
  have ht0 : 0 ≤ t ∧ t ≤ 253402300799 := by simpa [Tr.vt] using ht
  clear e1 e2 e4 e8 e16 ht b0 b1 b2 b3 b4 b5 hd
  go_enter Try.func66, Try.ntmps66
  go_wp2_with (go_at_call 83; fail)
  refine (kinds_c _).mono ?_
  rintro e w1 ⟨g, rfl, hg1, hg2, hgc, K1⟩
  have HK1 := Lib.hid (HK0.out.trans K1 (fun _ _ h => h))
  have HR1 := Lib.hid (HROW.out.same K1)
  obtain ⟨A, hA⟩ : ∃ A, w.heap.size = A := ⟨_, rfl⟩
  rw [hA] at HR1 ⊢
  clear hA K1 HK0 HROW hg1
  have c0 := HR1.out.get (j := 0) rfl
  have c1 := HR1.out.get (j := 1) rfl
  have c2 := HR1.out.get (j := 2) rfl
  have c3 := HR1.out.get (j := 3) rfl
  have c4 := HR1.out.get (j := 4) rfl
  have c5 := HR1.out.get (j := 5) rfl
  have c6 := HR1.out.get (j := 6) rfl
  have c7 := HR1.out.get (j := 7) rfl
  have hb := HR1.out.lt
  obtain ⟨d0, d1, d2⟩ := kind_cells hgc hk1 hk8
  clear hgc
  have k1 : ¬ (k : Int) < 1 := by omega
  have k2 : (k : Int) < 9 := by omega
  have k3 : ((k : Int) == 4) = false := by simp; omega
  have hw1 : IntKind.i64.wrap (t + 1) = t + 1 := IntWalk.i64_in _ (by omega)
  go_wp2_with (first
    | (go_at_call 85; with_reducible refine (valid_b true t _ HT.out).mono ?_; rintro e w' ⟨rfl, rfl⟩)
    | (go_at_call 85; with_reducible refine (valid_b true due _ HD.out).mono ?_; rintro e w' ⟨rfl, rfl⟩)
    | (go_at_call 84; refine (uses_c (usesK k) 2 true U2.out w1.heap.size _ (by simp)).mono ?_; rintro e w' ⟨rfl, rfl⟩))
  obtain ⟨kb, hkb⟩ : ∃ kb, w1.heap.size = kb := ⟨_, rfl⟩
  have HKK := Lib.hid (HK1.out.alloc (.cells #[Value.string (wordK k), .int .i64 (usesK k), .int .i64 (whyK k)] 105))
  have HROW2 := Lib.hid (RowAt.new w1 105 #[Value.string (wordK k), .int .i64 (usesK k), .int .i64 (whyK k)])
  have HR2 := Lib.hid (HR1.out.same ((Kept.refl (fun _ => False) w1).alloc (.cells #[Value.string (wordK k), .int .i64 (usesK k), .int .i64 (whyK k)] 105)))
  generalize w1.alloc (.cells #[Value.string (wordK k), .int .i64 (usesK k), .int .i64 (whyK k)] 105) = w2 at HKK HROW2 HR2 ⊢
  rw [hkb] at HROW2 ⊢
  clear c0 c1 c2 c3 c4 c5 c6 c7 hb d0 d1 d2 hkb HK1 HR1
  have c1 := HR2.out.get (j := 1) rfl
  have c2 := HR2.out.get (j := 2) rfl
  have c3 := HR2.out.get (j := 3) rfl
  have c4 := HR2.out.get (j := 4) rfl
  have c5 := HR2.out.get (j := 5) rfl
  have c6 := HR2.out.get (j := 6) rfl
  have c7 := HR2.out.get (j := 7) rfl
  have f1 := HROW2.out.get (j := 1) rfl
  have f2 := HROW2.out.get (j := 2) rfl
  have F1 : Hid (∀ n, (w2.drewN n).cell? ⟨kb, 1, none⟩ = some (.int .i64 (usesK k))) := Lib.hid fun n => f1
  refine wp_region_quiet_lit (by kernel_rfl) (by kernel_rfl) ?_
  iterate 1 (go_big_quiet_step (fail))
  go_big_quiet_step (exact quiet_same (uses_c (usesK k) 1 u1 U1.out kb _ (F1.out _)))
  iterate 2 (go_big_quiet_step (fail))
  go_big_quiet_step (exact quiet_same (in_b true u1 job 0 63 _ B0.out))
  iterate 1 (go_big_quiet_step (fail))
  iterate 1 (go_big_quiet_step (fail))
  go_big_quiet_step (exact quiet_same (uses_c (usesK k) 2 true U2.out kb _ (F1.out _)))
  iterate 4 (go_big_quiet_step (fail))
  go_big_quiet_step (exact quiet_same (in_b true true due 0 t _ B1.out))
  iterate 2 (go_big_quiet_step (fail))
  iterate 1 (go_big_quiet_step (fail))
  go_big_quiet_step (exact quiet_same (uses_c (usesK k) 2 true U2.out kb _ (F1.out _)))
  iterate 3 (go_big_quiet_step (fail))
  go_big_quiet_step (exact quiet_same (in_b true true att 1 21 _ B2.out))
  iterate 2 (go_big_quiet_step (fail))
  iterate 1 (go_big_quiet_step (fail))
  go_big_quiet_step (exact quiet_same (uses_c (usesK k) 4 u4 U4.out kb _ (F1.out _)))
  iterate 2 (go_big_quiet_step (fail))
  go_big_quiet_step (exact quiet_same (in_b true u4 run 1 9223372036854775807 _ B3.out))
  iterate 2 (go_big_quiet_step (fail))
  iterate 1 (go_big_quiet_step (fail))
  go_big_quiet_step (exact quiet_same (uses_c (usesK k) 8 u8 U8.out kb _ (F1.out _)))
  iterate 5 (go_big_quiet_step (fail))
  go_big_quiet_step (exact quiet_same (in_b true u8 whn (t + 1) 4611686018427387904 _ B4.out))
  iterate 2 (go_big_quiet_step (fail))
  iterate 1 (go_big_quiet_step (fail))
  go_big_quiet_step (exact quiet_same (uses_c (usesK k) 16 u16 U16.out kb _ (F1.out _)))
  iterate 4 (go_big_quiet_step (fail))
  go_big_quiet_step (exact quiet_same (in_b true u16 why 1 (whyK k) _ B5.out))
  iterate 1 (go_big_quiet_step (fail))
  refine wpQuiet_nil ?_
  rintro _ ⟨nq, rfl⟩
  go_wp2
  go_ret
  exact ⟨rfl, HKK.out.drewN _⟩

end Go.Proofs.Ytfhlllmicobafaa

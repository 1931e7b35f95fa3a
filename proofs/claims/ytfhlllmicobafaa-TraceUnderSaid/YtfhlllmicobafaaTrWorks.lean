/- TrWorks: texts for the statements of this seat: contracts of functions, walks, plain laws. Conditions: none. -/
import Derived.Test.YtfhlllmicobafaaTrEx
set_option linter.all false
/- works: what the chapter says of its example holds. -/
namespace Go.Proofs.Ytfhlllmicobafaa
open Go.RowKit
open Tr (Ev ofB)
abbrev Tru (w : World) (e : Ending) (w' : World) : Prop := e = .returned (.bool true) ∧ Kept (fun _ => False) w w'
theorem exLen : exL.length = 7 := rfl
theorem RO.ints {w wk : World} {v : Value} {xs : List Int} {e : Nat} (h : RO (fun x : Int => [Value.int .i64 x]) 1 e w wk v xs) : Ints wk v xs := by
  have := h.1
  rw [cells_ints] at this
  exact IntsK.of_own this
set_option maxRecDepth 100000 in
set_option maxHeartbeats 4000000 in
theorem works_c (w : World) : Calls Try.prog 14 #[] w fun e w' => e = .returned (.bool true) ∧ Kept (fun _ => False) w w' := by
  have HX := Lib.hid (example_c w)
  go_enter Try.func14, Try.ntmps14
  go_wp2_with (go_at_call 45; fail)
  refine HX.out.mono ?_
  rintro e w1 ⟨b, rfl, hv, K1⟩
  have HV := Lib.hid hv
  have HK1 := Lib.hid K1
  have HC := Lib.hid (check_c hv exW (by decide) 2)
  rw [ex_c1] at HC
  clear hv K1 HX
  go_wp2_with (go_at_call 21; fail)
  refine HC.out.mono ?_
  rintro e w2 ⟨rfl, K2⟩
  have HK2 := Lib.hid (HK1.out.trans K2 (fun _ _ h => h))
  have HV2 := Lib.hid (HV.out.same K2)
  have hd : Evs w2 (.slice (some ⟨b, 8, none⟩) 6 6) (exL.drop 1) := by simpa using HV2.out.drop (k := 1) (by decide)
  have HC2 := Lib.hid (check_c hd (fun x hx => exW x (List.mem_of_mem_drop hx)) (by decide) 2)
  rw [ex_c2] at HC2
  clear hd K2 HV HC
  go_wp2_with (go_at_call 21; fail)
  refine HC2.out.mono ?_
  rintro e w3 ⟨rfl, K3⟩
  have HK3 := Lib.hid (HK2.out.trans K3 (fun _ _ h => h))
  have HV3 := Lib.hid (HV2.out.same K3)
  clear K3 HV2 HC2
  go_wp2_with (go_at_call 15; fail)
  refine (running_c HV3.out exW (by decide) 2).mono ?_
  rintro e w4 ⟨vr, rfl, hr⟩
  rw [ex_r.1, if_pos rfl, show (2 : Int).toNat = 2 from rfl, ex_r.2] at hr
  rw [ex_r.1]
  have HK4 := Lib.hid (HK3.out.trans hr.2.2 (fun _ _ h => h))
  have HV4 := Lib.hid (HV3.out.same hr.2.2)
  have HR4 := Lib.hid hr.ints
  clear hr HV3
  have HM := Lib.hid (callsIn_wide.1 (most_in 4 (Nat.le_refl _) HV4.out exW (by decide) 0))
  rw [ex_w, ex_m] at HM
  go_wp2_with (go_at_call 17; fail)
  refine HM.out.mono ?_
  rintro e w5 ⟨rfl, K5⟩
  rw [if_pos rfl]
  have HK5 := Lib.hid (HK4.out.trans K5 (fun _ _ h => h))
  have HV5 := Lib.hid (HV4.out.same K5)
  have HR5 := Lib.hid (HR4.out.same K5)
  clear K5 HV4 HM HR4
  have HL := Lib.hid (callsIn_wide.1 (laun_in 4 (Nat.le_refl _) HV5.out exW (by decide) 0))
  rw [ex_w, ex_l] at HL
  go_wp2_with (go_at_call 24; fail)
  refine HL.out.mono ?_
  rintro e w6 ⟨vl, rfl, hl⟩
  rw [if_pos rfl] at hl
  have HK6 := Lib.hid (HK5.out.trans hl.2.2 (fun _ _ h => h))
  have HV6 := Lib.hid (HV5.out.same hl.2.2)
  have HR6 := Lib.hid (HR5.out.same hl.2.2)
  have HL6 := Lib.hid hl.ints
  clear hl HV5 HL HR5
  have HE := Lib.hid (callsIn_wide.1 (ends_in 4 (Nat.le_refl _) HV6.out exW (by decide) 1 100))
  go_wp2_with (go_at_call 37; fail)
  refine HE.out.mono ?_
  rintro e w7 ⟨rfl, K7⟩
  rw [ex_e.1, ex_e.2]
  have HK7 := Lib.hid (HK6.out.trans K7 (fun _ _ h => h))
  have HV7 := Lib.hid (HV6.out.same K7)
  have HR7 := Lib.hid (HR6.out.same K7)
  have HL7 := Lib.hid (HL6.out.same K7)
  clear K7 HV6 HE HR6 HL6
  go_wp2_with (go_at_call 30; fail)
  refine (tally_c HV7.out exW (by decide)).mono ?_
  rintro e w8 ⟨rfl, K8⟩
  rw [ex_t.1, ex_t.2]
  have HK8 := Lib.hid (HK7.out.trans K8 (fun _ _ h => h))
  have HR8 := Lib.hid (HR7.out.same K8)
  have HL8 := Lib.hid (HL7.out.same K8)
  clear K8 HV7 HR7 HL7
  simp only [iv9, List.map_cons, List.map_nil]
  have HT0 := Lib.hid (RowAt.new w8 49 #[.int .i64 0, .int .i64 3, .int .i64 1, .int .i64 1, .int .i64 1, .int .i64 1, .int .i64 0, .int .i64 0, .int .i64 0])
  have HKT : Hid (Kept (fun _ => False) w8 (w8.alloc (.cells #[.int .i64 0, .int .i64 3, .int .i64 1, .int .i64 1, .int .i64 1, .int .i64 1, .int .i64 0, .int .i64 0, .int .i64 0] 49))) := Lib.hid ((Kept.refl _ _).alloc _)
  have HLIT : Hid (Ints ((w8.alloc (.cells #[.int .i64 0, .int .i64 3, .int .i64 1, .int .i64 1, .int .i64 1, .int .i64 1, .int .i64 0, .int .i64 0, .int .i64 0] 49)).alloc (.cells #[.int .i64 1, .int .i64 2] 3)) (.slice (some ⟨w8.heap.size + 1, 0, none⟩) 2 2) [1, 2]) := Lib.hid (IntsK.new _ (by simp) rfl rfl)
  have HKA : Hid (Kept (fun _ => False) w8 ((w8.alloc (.cells #[.int .i64 0, .int .i64 3, .int .i64 1, .int .i64 1, .int .i64 1, .int .i64 1, .int .i64 0, .int .i64 0, .int .i64 0] 49)).alloc (.cells #[.int .i64 1, .int .i64 2] 3))) := Lib.hid (HKT.out.alloc _)
  go_wp2_with (go_at_call 19; fail)
  refine (equal19_c (HR8.out.same HKA.out) HLIT.out (by decide) (by decide)).mono ?_
  rintro e w9 ⟨rfl, q, rfl⟩
  rw [decide_eq_true rfl]
  obtain ⟨w9, hw9⟩ : ∃ w9, w9 = ((w8.alloc (.cells #[.int .i64 0, .int .i64 3, .int .i64 1, .int .i64 1, .int .i64 1, .int .i64 1, .int .i64 0, .int .i64 0, .int .i64 0] 49)).alloc (.cells #[.int .i64 1, .int .i64 2] 3)).drewN q := ⟨_, rfl⟩
  have KA9 : Kept (fun _ => False) w8 w9 := by rw [hw9]; exact HKA.out.drewN q
  have KT9 : Kept (fun _ => False) (w8.alloc (.cells #[.int .i64 0, .int .i64 3, .int .i64 1, .int .i64 1, .int .i64 1, .int .i64 1, .int .i64 0, .int .i64 0, .int .i64 0] 49)) w9 := by rw [hw9]; exact ((Kept.refl _ _).alloc _).drewN q
  rw [← hw9]
  have HK9 := Lib.hid (HK8.out.trans KA9 (fun _ _ h => h))
  have HL9 := Lib.hid (HL8.out.same KA9)
  have HT9 := Lib.hid (HT0.out.same KT9)
  clear hw9 KA9 KT9 HK8 HL8 HR8 HT0 HKT HLIT HKA
  have HLIT : Hid (Ints (w9.alloc (.cells #[.int .i64 100, .int .i64 120] 2)) (.slice (some ⟨w9.heap.size, 0, none⟩) 2 2) [100, 120]) := Lib.hid (IntsK.new _ rfl rfl rfl)
  have HKA := Lib.hid ((Kept.refl (fun _ => False) w9).alloc (.cells #[.int .i64 100, .int .i64 120] 2))
  go_wp2_with (go_at_call 28; fail)
  refine (equal28_c (HL9.out.same HKA.out) HLIT.out (by decide) (by decide)).mono ?_
  rintro e w10 ⟨rfl, q2, rfl⟩
  rw [decide_eq_true rfl]
  obtain ⟨w10, hw10⟩ : ∃ w10, w10 = (w9.alloc (.cells #[.int .i64 100, .int .i64 120] 2)).drewN q2 := ⟨_, rfl⟩
  have KA10 : Kept (fun _ => False) w9 w10 := by rw [hw10]; exact HKA.out.drewN q2
  rw [← hw10]
  have HK10 := Lib.hid (HK9.out.trans KA10 (fun _ _ h => h))
  have HT10 := Lib.hid (HT9.out.same KA10)
  clear hw10 KA10 HK9 HL9 HT9 HLIT HKA
  have t0 := HT10.out.get (j := 0) rfl
  have t1 := HT10.out.get (j := 1) rfl
  have t2 := HT10.out.get (j := 2) rfl
  have t3 := HT10.out.get (j := 3) rfl
  have t4 := HT10.out.get (j := 4) rfl
  have t5 := HT10.out.get (j := 5) rfl
  have t6 := HT10.out.get (j := 6) rfl
  have t7 := HT10.out.get (j := 7) rfl
  have t8 := HT10.out.get (j := 8) rfl
  have tl := HT10.out.lt
  have heq := run_equalIn9 w10 [0, 3, 1, 1, 1, 1, 0, 0, 0] [0, 3, 1, 1, 1, 1, 0, 0, 0] rfl rfl
  simp only [iv9, List.map_cons, List.map_nil, decide_true] at heq
  have u49 := Try.underlying49
  go_wp2
  go_ret
  exact ⟨rfl, HK10.out⟩
end Go.Proofs.Ytfhlllmicobafaa

/- works: the chapter's examples hold. -/
import Derived.Test.YtaedijppbghnaaaBkHelp
namespace Go.Proofs.Ytaedijppbghnaaa
open Go.RowKit
open Bk (Sp has chk vld)

abbrev Tru (w : World) (e : Ending) (w' : World) : Prop := e = .returned (.bool true) ∧ Kept (fun _ => False) w w'
theorem ex_chk : chk exl = 0 := by decide +kernel
theorem ex_err : err2 exl [] = 0 := by decide +kernel
theorem ex_nor : Bk.rres wOr exl [] = [(10, 28), (30, 40)] := by decide +kernel
theorem ex_free : freeF exl 12 = (29, true, 0) := by decide +kernel
theorem ex_err2 : err2 exl [(12, 12), (35, 99)] = 0 := by decide +kernel
theorem ex_wo : Bk.rres wNot exl [(12, 12), (35, 99)] = [(10, 11), (13, 28), (30, 34)] := by decide +kernel
theorem ex_len : lenF exl 28 30 = 2 ∧ lenE exl 28 30 = 0 := by decide +kernel
set_option maxRecDepth 100000 in
set_option maxHeartbeats 2000000 in
theorem works_c (w : World) : Calls Try.prog 17 #[] w fun e w' => e = .returned (.bool true) ∧ Kept (fun _ => False) w w' := by
  have HX := Lib.hid (example_c w)
  go_enter Try.func17, Try.ntmps17
  go_wp2_with (go_at_call 40; fail)
  refine HX.out.mono ?_
  rintro e w1 ⟨v, rfl, hv, -, K1⟩
  have HV := Lib.hid hv
  have HK1 := Lib.hid K1
  have HN := Lib.hid (normal_c hv (by decide))
  clear hv K1
  go_wp2_with (go_at_call 23; fail)
  refine HN.out.mono ?_
  rintro e w2 ⟨vn, rfl, hn, -, K2⟩
  rw [ex_err, if_pos rfl, ex_nor] at hn
  rw [ex_err]
  have HNV := Lib.hid hn
  have HK2 := Lib.hid (HK1.out.trans K2 (fun _ _ h => h))
  have HV2 := Lib.hid (HV.out.same K2)
  clear hn K2 HN HV
  go_wp2_with (go_at_call 20; fail)
  refine (free_c HV2.out (by decide) 12).mono ?_
  rintro e w3 ⟨rfl, K3⟩
  rw [ex_free]
  have HK3 := Lib.hid (HK2.out.trans K3 (fun _ _ h => h))
  have HV3 := Lib.hid (HV2.out.same K3)
  have HNV3 := Lib.hid (HNV.out.same K3)
  clear K3 HV2 HNV
  have HLIT : Hid (Prs (w3.alloc (.cells #[.int .i64 12, .int .i64 12, .int .i64 35, .int .i64 99] 42)) (.slice (some ⟨w3.heap.size, 0, none⟩) 2 2) [(12, 12), (35, 99)]) := Lib.hid (Prs.new _ rfl rfl rfl)
  have HKA := Lib.hid ((Kept.refl (fun _ => False) w3).alloc (.cells #[.int .i64 12, .int .i64 12, .int .i64 35, .int .i64 99] 42))
  go_wp2_with (go_at_call 15; fail)
  refine (op15_c (HV3.out.same HKA.out) HLIT.out (by decide) (by decide)).mono ?_
  rintro e w4 ⟨vw, rfl, hw, -, K4⟩
  rw [ex_err2, if_pos rfl, ex_wo] at hw
  rw [ex_err2]
  have KA4 := HKA.out.trans K4 (fun _ _ h => h)
  have HK4 := Lib.hid (HK3.out.trans KA4 (fun _ _ h => h))
  have HV4 := Lib.hid (HV3.out.same KA4)
  have HNV4 := Lib.hid (HNV3.out.same KA4)
  have HW4 := Lib.hid hw
  clear K4 KA4 hw HV3 HNV3 HLIT HKA
  go_wp2_with (go_at_call 16; fail)
  refine (length_c HV4.out (by decide) 28 30).mono ?_
  rintro e w5 ⟨rfl, K5⟩
  rw [ex_len.1, ex_len.2]
  have HK5 := Lib.hid (HK4.out.trans K5 (fun _ _ h => h))
  have HNV5 := Lib.hid (HNV4.out.same K5)
  have HW5 := Lib.hid (HW4.out.same K5)
  clear K5 HV4 HNV4 HW4
  have HLIT : Hid (Prs (w5.alloc (.cells #[.int .i64 10, .int .i64 28, .int .i64 30, .int .i64 40] 42)) (.slice (some ⟨w5.heap.size, 0, none⟩) 2 2) [(10, 28), (30, 40)]) := Lib.hid (Prs.new _ rfl rfl rfl)
  have HKA := Lib.hid ((Kept.refl (fun _ => False) w5).alloc (.cells #[.int .i64 10, .int .i64 28, .int .i64 30, .int .i64 40] 42))
  go_wp2_with (go_at_call 25; fail)
  refine (equal_c (HNV5.out.same HKA.out) HLIT.out (by decide) (by decide)).mono ?_
  rintro e w6 ⟨rfl, K6⟩
  rw [decide_eq_true rfl]
  have KA6 := HKA.out.trans K6 (fun _ _ h => h)
  have HK6 := Lib.hid (HK5.out.trans KA6 (fun _ _ h => h))
  have HW6 := Lib.hid (HW5.out.same KA6)
  clear K6 KA6 HLIT HKA HNV5 HW5
  have HLIT : Hid (Prs (w6.alloc (.cells #[.int .i64 10, .int .i64 11, .int .i64 13, .int .i64 28, .int .i64 30, .int .i64 34] 42)) (.slice (some ⟨w6.heap.size, 0, none⟩) 3 3) [(10, 11), (13, 28), (30, 34)]) := Lib.hid (Prs.new _ rfl rfl rfl)
  have HKA := Lib.hid ((Kept.refl (fun _ => False) w6).alloc (.cells #[.int .i64 10, .int .i64 11, .int .i64 13, .int .i64 28, .int .i64 30, .int .i64 34] 42))
  go_wp2_with (go_at_call 25; fail)
  refine (equal_c (HW6.out.same HKA.out) HLIT.out (by decide) (by decide)).mono ?_
  rintro e w7 ⟨rfl, K7⟩
  rw [decide_eq_true rfl]
  have KA7 := HKA.out.trans K7 (fun _ _ h => h)
  have HK7 := Lib.hid (HK6.out.trans KA7 (fun _ _ h => h))
  clear K7 KA7 HLIT HKA HW6
  go_wp2
  go_ret
  exact ⟨rfl, HK7.out⟩
end Go.Proofs.Ytaedijppbghnaaa

/- The walk of the statement WindowLimits. -/
import Derived.Test.YtelgknecainlfaaWiFits
import Derived.Test.YtelgknecainlfaaWiCountsW
namespace Go.Proofs.Ytelgknecainlfaa
open Go.RowKit
open Wi (vld Srt chk)

set_option maxRecDepth 100000 in
set_option maxHeartbeats 4000000 in
theorem limits_w {w : World} {v : Value} {l : List Int} (h : Ints w v l) (hl : l.length ≤ maxLen) (T U : Int) : Calls Try.prog 11 #[.agg #[.int .i64 T, .int .i64 U], v] w fun e w' => e = .returned (.bool true) ∧ Kept (fun _ => False) w w' := by
  have HK0 := Lib.hid ((Kept.refl (fun _ => False) w).alloc (.cells #[.int .i64 T, .int .i64 U] 23))
  have HROW := Lib.hid (RowAt.new w 23 #[.int .i64 T, .int .i64 U])
  by_cases g1 : 100 < l.length
  · obtain ⟨aa, cap, rfl⟩ := h.len
    have hl2 := maxlen_le hl
    clear h hl
    generalize l.length = n at g1 hl2 ⊢
    have g2 : (100 : Int) < n := by omega
    go_enter Try.func11, Try.ntmps11
    go_wp2_with (go_at_call 14; refine works_t.mono ?_; rintro e w2 ⟨rfl, K⟩)
    go_ret
    exact ⟨rfl, HK0.out.trans K (fun _ _ h => h)⟩
  have hl' : l.length ≤ 4611686018427387904 := by omega
  have HC1 := Lib.hid (fun W (K : Kept (fun _ => False) w W) => keeps_c (h.same K) hl' T U)
  have HC2 := Lib.hid (fun W (K : Kept (fun _ => False) w W) => fits_c (h.same K) hl' T U)
  obtain ⟨aa, cap, rfl⟩ := h.len
  generalize l.length = n at g1 HC1 HC2 ⊢
  have g2 : ¬ (100 : Int) < n := by omega
  clear h hl hl'
  by_cases hz : bothE T U l = 0
  · have HZ := Lib.hid hz
    clear hz
    go_enter Try.func11, Try.ntmps11
    go_upto_region 3 with fail
    generalize w.heap.size = rb at HROW ⊢
    generalize w.alloc (.cells #[.int .i64 T, .int .i64 U] 23) = w0 at HROW HK0 ⊢
    have c0 := HROW.out.get (j := 0) rfl
    have c1 := HROW.out.get (j := 1) rfl
    have hb := HROW.out.lt
    go_wp2_with (go_at_call 15; fail)
    refine (HC1.out _ HK0.out).mono ?_
    rintro e w1 ⟨ki, kj, kb, rfl, hr, K⟩
    rw [if_pos HZ.out] at hr
    rw [HZ.out]
    have HREL := Lib.hid hr
    have HK1 := Lib.hid (HK0.out.trans K (fun _ _ h => h))
    have HR1 := Lib.hid (HROW.out.same K)
    clear hr K HK0 HROW c0 c1 hb HC1
    have c0 := HR1.out.get (j := 0) rfl
    have c1 := HR1.out.get (j := 1) rfl
    have hb := HR1.out.lt
    go_wp2_with (go_at_call 33; fail)
    refine (HC2.out _ HK1.out).mono ?_
    rintro e w2 ⟨fk, fw, rfl, hf, K⟩
    rw [if_pos HZ.out] at hf
    rw [HZ.out]
    have hkf := hf.keeps HREL.out
    have HK2 := Lib.hid (HK1.out.trans K (fun _ _ h => h))
    clear hf K HK1 HR1 c0 c1 hb HC2 HREL
    obtain ⟨rfl, hj⟩ := hkf
    cases fw with
    | false =>
      clear hj
      go_wp2_with (go_at_call 14; refine works_t.mono ?_; rintro e w3 ⟨rfl, K2⟩)
      go_ret
      exact ⟨rfl, HK2.out.trans K2 (fun _ _ h => h)⟩
    | true =>
      obtain rfl : kj = fk := by simpa using hj
      clear hj
      go_wp2_with (go_at_call 14; refine works_t.mono ?_; rintro e w3 ⟨rfl, K2⟩)
      go_ret
      exact ⟨rfl, HK2.out.trans K2 (fun _ _ h => h)⟩
  · obtain ⟨r, hr⟩ : ∃ r, bothE T U l = r := ⟨_, rfl⟩
    have HR := Lib.hid hr
    rw [hr] at hz
    have hb1 : (r == 0) = false := by simpa using hz
    have hb2 : (r != 0) = true := by simpa using hz
    clear hr
    go_enter Try.func11, Try.ntmps11
    go_upto_region 3 with fail
    generalize w.heap.size = rb at HROW ⊢
    generalize w.alloc (.cells #[.int .i64 T, .int .i64 U] 23) = w0 at HROW HK0 ⊢
    have c0 := HROW.out.get (j := 0) rfl
    have c1 := HROW.out.get (j := 1) rfl
    have hb := HROW.out.lt
    go_wp2_with (go_at_call 15; fail)
    refine (HC1.out _ HK0.out).mono ?_
    rintro e w1 ⟨ki, kj, kb, rfl, hr, K⟩
    rw [HR.out]
    have HK1 := Lib.hid (HK0.out.trans K (fun _ _ h => h))
    have HR1 := Lib.hid (HROW.out.same K)
    clear hr K HK0 HROW c0 c1 hb HC1
    have c0 := HR1.out.get (j := 0) rfl
    have c1 := HR1.out.get (j := 1) rfl
    have hb := HR1.out.lt
    go_wp2_with (go_at_call 33; fail)
    refine (HC2.out _ HK1.out).mono ?_
    rintro e w2 ⟨fk, fw, rfl, hf, K⟩
    rw [HR.out]
    have HK2 := Lib.hid (HK1.out.trans K (fun _ _ h => h))
    clear hf K HK1 HR1 c0 c1 hb HC2
    go_wp2_with (go_at_call 14; refine works_t.mono ?_; rintro e w3 ⟨rfl, K2⟩)
    go_ret
    exact ⟨rfl, HK2.out.trans K2 (fun _ _ h => h)⟩
end Go.Proofs.Ytelgknecainlfaa

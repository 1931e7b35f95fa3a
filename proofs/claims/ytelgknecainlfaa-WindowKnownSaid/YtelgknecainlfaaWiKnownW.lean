/- The walk of the statement WindowKnown. -/
import Derived.Test.YtelgknecainlfaaWiKnown1
import Derived.OwnWalk
namespace Go.Proofs.Ytelgknecainlfaa
open Go.RowKit
open Wi (vld Srt chk limB limE inS longE)

set_option maxRecDepth 100000 in
set_option maxHeartbeats 8000000 in
theorem known_w {w : World} : Calls Try.prog 12 #[] w fun e w' => e = .returned (.bool true) ∧ Kept (fun _ => False) w w' := by
  obtain ⟨i0, hi, hz0, hz1, hz2⟩ := info_parts info2q
  obtain ⟨N, hN⟩ : ∃ N : Nat, N = 100001 := ⟨_, rfl⟩
  have HN := Lib.hid hN
  have hN1 : (100001 : Int) = (N : Int) := by omega
  have hb2 : i0.bytes * N ≤ 281474976710656 := by rw [hz2]; omega
  have hb3 : N ≤ maxLen := by unfold maxLen; omega
  have HMK := Lib.hid (And.intro hi (And.intro hz0 (And.intro hz1 (And.intro hN1 (And.intro hb2 hb3)))))
  have HLN : Hid ((List.replicate N (0 : Int)).length ≤ 4611686018427387904) := Lib.hid (by rw [List.length_replicate]; omega)
  clear hi hz0 hz1 hz2 hN1 hb2 hb3 hN
  go_enter Try.func12, Try.ntmps12
  go_upto_region 2 with fail
  have HL0 := Lib.hid (RowAt.new w 23 #[.int .i64 5, .int .i64 10])
  have HK0 := Lib.hid ((Kept.refl (fun _ => False) w).alloc (.cells #[.int .i64 5, .int .i64 10] 23))
  generalize w.heap.size = lb at HL0 ⊢
  generalize w.alloc (.cells #[.int .i64 5, .int .i64 10] 23) = w0 at HL0 HK0 ⊢
  go_wp2_with (go_at_call 22; fail)
  refine (k_most (n := 3) (IntsK.new [0, 0, 0, 5, 10, 40] rfl rfl rfl) (by decide) q_most1 q_most2).mono ?_
  rintro e w1 ⟨rfl, K⟩
  have K' := ((Kept.refl (fun _ => False) w0).alloc _).trans K (fun _ _ h => h)
  have HK1 := Lib.hid (HK0.out.trans K' (fun _ _ h => h))
  have HL1 := Lib.hid (HL0.out.same K')
  have HT1 := Lib.hid ((IntsK.new (k := .i64) (w := w0) (t := 2) (n := 6) (cap := 6) (cs := #[.int .i64 0, .int .i64 0, .int .i64 0, .int .i64 5, .int .i64 10, .int .i64 40]) [0, 0, 0, 5, 10, 40] rfl rfl rfl).same K)
  clear K K' HK0 HL0
  have c0 := HL1.out.get (j := 0) rfl
  have c1 := HL1.out.get (j := 1) rfl
  have hb := HL1.out.lt
  go_wp2_with (go_at_call 19; fail)
  refine (k_bound (x := 3) (e := 0) _ (by decide) (by decide)).mono ?_
  rintro e w2 ⟨rfl, K⟩
  have K' := (Kept.refl (fun _ => False) w1).trans K (fun _ _ h => h)
  have HK2 := Lib.hid (HK1.out.trans K' (fun _ _ h => h))
  have HL2 := Lib.hid (HL1.out.same K')
  have HT2 := Lib.hid (HT1.out.same K')
  clear K K' HK1 HL1 HT1 c0 c1 hb
  have c0 := HL2.out.get (j := 0) rfl
  have c1 := HL2.out.get (j := 1) rfl
  have hb := HL2.out.lt
  go_wp2_with (go_at_call 15; fail)
  refine (k_keeps (IntsK.new [0, 0, 0, 0] rfl rfl rfl) (by decide) (q_both (by decide) (by decide) (by decide) (by decide)) q_keeps1).mono ?_
  rintro e w3 ⟨rfl, K⟩
  have K' := ((Kept.refl (fun _ => False) w2).alloc _).trans K (fun _ _ h => h)
  have HK3 := Lib.hid (HK2.out.trans K' (fun _ _ h => h))
  have HL3 := Lib.hid (HL2.out.same K')
  have HT3 := Lib.hid (HT2.out.same K')
  clear K K' HK2 HL2 HT2 c0 c1 hb
  have c0 := HL3.out.get (j := 0) rfl
  have c1 := HL3.out.get (j := 1) rfl
  have hb := HL3.out.lt
  go_wp2_with (go_at_call 15; fail)
  refine (k_keeps HT3.out (by decide) (q_both (by decide) (by decide) (by decide) (by decide)) q_keeps2).mono ?_
  rintro e w4 ⟨rfl, K⟩
  have K' := (Kept.refl (fun _ => False) w3).trans K (fun _ _ h => h)
  have HK4 := Lib.hid (HK3.out.trans K' (fun _ _ h => h))
  have HL4 := Lib.hid (HL3.out.same K')
  have HT4 := Lib.hid (HT3.out.same K')
  clear K K' HK3 HL3 HT3 c0 c1 hb
  go_wp2_with (go_at_call 25; fail)
  refine (k_busy (n := 5) (e := 0) ((IntsK.new (k := .i64) (w := w4) (t := 2) (n := 3) (cap := 3) (cs := #[.int .i64 0, .int .i64 3, .int .i64 20]) [0, 3, 20] rfl rfl rfl).same ((Kept.refl (fun _ => False) _).alloc _)) (IntsK.new [5, 6, 21] (by simp) rfl rfl) (by decide) (by decide) (by decide) (by decide)).mono ?_
  rintro e w5 ⟨rfl, K⟩
  have K' := (((Kept.refl (fun _ => False) w4).alloc _).alloc _).trans K (fun _ _ h => h)
  have HK5 := Lib.hid (HK4.out.trans K' (fun _ _ h => h))
  have HL5 := Lib.hid (HL4.out.same K')
  have HT5 := Lib.hid (HT4.out.same K')
  clear K K' HK4 HL4 HT4
  go_upto_region 11 with fail
  have HW6 := Lib.hid (RowAt.new w5 23 #[.int .i64 0, .int .i64 1])
  have K' := (Kept.refl (fun _ => False) w5).alloc (.cells #[.int .i64 0, .int .i64 1] 23)
  have HK6 := Lib.hid (HK5.out.trans K' (fun _ _ h => h))
  have HL6 := Lib.hid (HL5.out.same K')
  have HT6 := Lib.hid (HT5.out.same K')
  clear K' HK5 HL5 HT5
  generalize w5.heap.size = wb at HW6 ⊢
  generalize w5.alloc (.cells #[.int .i64 0, .int .i64 1] 23) = w6 at HL6 HT6 HW6 HK6 ⊢
  go_wp2_with (first | (at_make; go_loud (refine wpList_make_full _ rfl _ _ 24 rfl w6.heap.size 2 i0 (.int .i64 0) 1 Try.underlying24 HMK.out.1 HMK.out.2.1 HMK.out.2.2.1 .i64 .i64 100001 100001 N rfl rfl HMK.out.2.2.2.1 HMK.out.2.2.2.1 HMK.out.2.2.2.2.1 HMK.out.2.2.2.2.2 (Nat.le_refl _) ?_; intro w7 hown hg; have K' := (Kept.of_grown hg).mono (T := fun _ => False) (fun _ _ h => by cases h); have HK7 := Lib.hid (HK6.out.trans K' (fun _ _ h => h)); have HL7 := Lib.hid (HL6.out.same K'); have HT7 := Lib.hid (HT6.out.same K'); have HW7 := Lib.hid (HW6.out.same K'); have HM7 := Lib.hid (many_ints hown); clear hown hg K' HK6 HL6 HT6 HW6; have c0 := HW7.out.get (j := 0) rfl; have c1 := HW7.out.get (j := 1) rfl; have hb := HW7.out.lt)) | (go_at_call 15; fail))
  refine (k_keeps_bad HM7.out HLN.out (q_many1 HN.out) (by decide)).mono ?_
  rintro e w8 ⟨rfl, K⟩
  have K' := (Kept.refl (fun _ => False) w7).trans K (fun _ _ h => h)
  have HK8 := Lib.hid (HK7.out.trans K' (fun _ _ h => h))
  have HL8 := Lib.hid (HL7.out.same K')
  have HT8 := Lib.hid (HT7.out.same K')
  have HW8 := Lib.hid (HW7.out.same K')
  have HM8 := Lib.hid (HM7.out.same K')
  clear K K' HK7 HL7 HT7 HW7 HM7 c0 c1 hb
  have c0 := HL8.out.get (j := 0) rfl
  have c1 := HL8.out.get (j := 1) rfl
  have hb := HL8.out.lt
  go_wp2_with (go_at_call 17; fail)
  refine (k_thin (n := 0) HM8.out HLN.out (q_many2 HN.out) (if_neg (by decide)) rfl).mono ?_
  rintro e w9 ⟨p1, s1, rfl, K⟩
  have K' := (Kept.refl (fun _ => False) w8).trans K (fun _ _ h => h)
  have HK9 := Lib.hid (HK8.out.trans K' (fun _ _ h => h))
  have HL9 := Lib.hid (HL8.out.same K')
  have HT9 := Lib.hid (HT8.out.same K')
  have HW9 := Lib.hid (HW8.out.same K')
  have HM9 := Lib.hid (HM8.out.same K')
  clear K K' HK8 HL8 HT8 HW8 HM8 c0 c1 hb
  go_wp2_with (go_at_call 22; fail)
  refine (k_most_bad (IntsK.new [5, 3, (-1)] rfl rfl rfl) (by decide) q_most_time (by decide)).mono ?_
  rintro e w10 ⟨rfl, K⟩
  have K' := ((Kept.refl (fun _ => False) w9).alloc _).trans K (fun _ _ h => h)
  have HK10 := Lib.hid (HK9.out.trans K' (fun _ _ h => h))
  have HL10 := Lib.hid (HL9.out.same K')
  have HT10 := Lib.hid (HT9.out.same K')
  have HW10 := Lib.hid (HW9.out.same K')
  have HM10 := Lib.hid (HM9.out.same K')
  clear K K' HK9 HL9 HT9 HW9 HM9
  go_wp2_with (go_at_call 22; fail)
  refine (k_most_bad (IntsK.new [5, 3] rfl rfl rfl) (by decide) q_most_order (by decide)).mono ?_
  rintro e w11 ⟨rfl, K⟩
  have K' := ((Kept.refl (fun _ => False) w10).alloc _).trans K (fun _ _ h => h)
  have HK11 := Lib.hid (HK10.out.trans K' (fun _ _ h => h))
  have HL11 := Lib.hid (HL10.out.same K')
  have HT11 := Lib.hid (HT10.out.same K')
  have HW11 := Lib.hid (HW10.out.same K')
  have HM11 := Lib.hid (HM10.out.same K')
  clear K K' HK10 HL10 HT10 HW10 HM10
  go_wp2_with (go_at_call 22; fail)
  refine (k_most_bad (IntsK.new [3] rfl rfl rfl) (by decide) q_most_arg (by decide)).mono ?_
  rintro e w12 ⟨rfl, K⟩
  have K' := ((Kept.refl (fun _ => False) w11).alloc _).trans K (fun _ _ h => h)
  have HK12 := Lib.hid (HK11.out.trans K' (fun _ _ h => h))
  have HL12 := Lib.hid (HL11.out.same K')
  have HT12 := Lib.hid (HT11.out.same K')
  have HW12 := Lib.hid (HW11.out.same K')
  have HM12 := Lib.hid (HM11.out.same K')
  clear K K' HK11 HL11 HT11 HW11 HM11
  go_wp2_with (go_at_call 19; fail)
  refine (k_bound (x := 0) (e := 5) _ (by decide) (by decide)).mono ?_
  rintro e w13 ⟨rfl, K⟩
  have K' := (Kept.refl (fun _ => False) w12).trans K (fun _ _ h => h)
  have HK13 := Lib.hid (HK12.out.trans K' (fun _ _ h => h))
  have HL13 := Lib.hid (HL12.out.same K')
  have HT13 := Lib.hid (HT12.out.same K')
  have HW13 := Lib.hid (HW12.out.same K')
  have HM13 := Lib.hid (HM12.out.same K')
  clear K K' HK12 HL12 HT12 HW12 HM12
  have c0 := HL13.out.get (j := 0) rfl
  have c1 := HL13.out.get (j := 1) rfl
  have hb := HL13.out.lt
  go_wp2_with (go_at_call 19; fail)
  refine (k_bound (x := 0) (e := 2) _ (by decide) (by decide)).mono ?_
  rintro e w14 ⟨rfl, K⟩
  have K' := (Kept.refl (fun _ => False) w13).trans K (fun _ _ h => h)
  have HK14 := Lib.hid (HK13.out.trans K' (fun _ _ h => h))
  have HL14 := Lib.hid (HL13.out.same K')
  have HT14 := Lib.hid (HT13.out.same K')
  have HW14 := Lib.hid (HW13.out.same K')
  have HM14 := Lib.hid (HM13.out.same K')
  clear K K' HK13 HL13 HT13 HW13 HM13 c0 c1 hb
  go_wp2_with (go_at_call 29; fail)
  refine (k_with (IntsK.new [3] rfl rfl rfl) (by decide) q_with (by decide)).mono ?_
  rintro e w15 ⟨rfl, K⟩
  have K' := ((Kept.refl (fun _ => False) w14).alloc _).trans K (fun _ _ h => h)
  have HK15 := Lib.hid (HK14.out.trans K' (fun _ _ h => h))
  have HL15 := Lib.hid (HL14.out.same K')
  have HT15 := Lib.hid (HT14.out.same K')
  have HW15 := Lib.hid (HW14.out.same K')
  have HM15 := Lib.hid (HM14.out.same K')
  clear K K' HK14 HL14 HT14 HW14 HM14
  go_wp2_with (go_at_call 23; fail)
  refine (k_peak_bad HM15.out (n_nil _) HLN.out (by decide) (q_many3 HN.out) (by decide)).mono ?_
  rintro e w16 ⟨rfl, K⟩
  have K' := (Kept.refl (fun _ => False) w15).trans K (fun _ _ h => h)
  have HK16 := Lib.hid (HK15.out.trans K' (fun _ _ h => h))
  have HL16 := Lib.hid (HL15.out.same K')
  have HT16 := Lib.hid (HT15.out.same K')
  have HW16 := Lib.hid (HW15.out.same K')
  have HM16 := Lib.hid (HM15.out.same K')
  clear K K' HK15 HL15 HT15 HW15 HM15
  go_wp2_with (go_at_call 23; fail)
  refine (k_peak_bad (e := 2) (IntsK.new [(-1)] rfl rfl rfl) (n_nil _) (by decide) (by decide) (by decide) (by decide)).mono ?_
  rintro e w17 ⟨rfl, K⟩
  have K' := ((Kept.refl (fun _ => False) w16).alloc _).trans K (fun _ _ h => h)
  have HK17 := Lib.hid (HK16.out.trans K' (fun _ _ h => h))
  have HL17 := Lib.hid (HL16.out.same K')
  have HT17 := Lib.hid (HT16.out.same K')
  have HW17 := Lib.hid (HW16.out.same K')
  have HM17 := Lib.hid (HM16.out.same K')
  clear K K' HK16 HL16 HT16 HW16 HM16
  go_wp2_with (go_at_call 25; fail)
  refine (k_busy (n := 0) (e := 14) ((IntsK.new (k := .i64) (w := w17) (t := 2) (n := 2) (cap := 2) (cs := #[.int .i64 5, .int .i64 0]) [5, 0] rfl rfl rfl).same ((Kept.refl (fun _ => False) _).alloc _)) (IntsK.new [4, (-1)] (by simp) rfl rfl) (by decide) (by decide) (by decide) (by decide)).mono ?_
  rintro e w18 ⟨rfl, K⟩
  have K' := (((Kept.refl (fun _ => False) w17).alloc _).alloc _).trans K (fun _ _ h => h)
  have HK18 := Lib.hid (HK17.out.trans K' (fun _ _ h => h))
  have HL18 := Lib.hid (HL17.out.same K')
  have HT18 := Lib.hid (HT17.out.same K')
  have HW18 := Lib.hid (HW17.out.same K')
  have HM18 := Lib.hid (HM17.out.same K')
  clear K K' HK17 HL17 HT17 HW17 HM17
  go_wp2_with (go_at_call 25; fail)
  refine (k_busy (n := 0) (e := 8) ((IntsK.new (k := .i64) (w := w18) (t := 2) (n := 1) (cap := 1) (cs := #[.int .i64 5]) [5] rfl rfl rfl).same ((Kept.refl (fun _ => False) _).alloc _)) (IntsK.new [4] (by simp) rfl rfl) (by decide) (by decide) (by decide) (by decide)).mono ?_
  rintro e w19 ⟨rfl, K⟩
  have K' := (((Kept.refl (fun _ => False) w18).alloc _).alloc _).trans K (fun _ _ h => h)
  have HK19 := Lib.hid (HK18.out.trans K' (fun _ _ h => h))
  have HL19 := Lib.hid (HL18.out.same K')
  have HT19 := Lib.hid (HT18.out.same K')
  have HW19 := Lib.hid (HW18.out.same K')
  have HM19 := Lib.hid (HM18.out.same K')
  clear K K' HK18 HL18 HT18 HW18 HM18
  go_wp2_with (go_at_call 25; fail)
  refine (k_busy (n := 0) (e := 14) ((IntsK.new (k := .i64) (w := w19) (t := 2) (n := 1) (cap := 1) (cs := #[.int .i64 4]) [4] rfl rfl rfl).same ((Kept.refl (fun _ => False) _).alloc _)) (IntsK.new [4] (by simp) rfl rfl) (by decide) (by decide) (by decide) (by decide)).mono ?_
  rintro e w20 ⟨rfl, K⟩
  have K' := (((Kept.refl (fun _ => False) w19).alloc _).alloc _).trans K (fun _ _ h => h)
  have HK20 := Lib.hid (HK19.out.trans K' (fun _ _ h => h))
  have HL20 := Lib.hid (HL19.out.same K')
  have HT20 := Lib.hid (HT19.out.same K')
  have HW20 := Lib.hid (HW19.out.same K')
  have HM20 := Lib.hid (HM19.out.same K')
  clear K K' HK19 HL19 HT19 HW19 HM19
  go_wp2_with (go_at_call 19; fail)
  refine (k_bound (x := 137438953473) (e := 0) _ (by decide) (by decide)).mono ?_
  rintro e w21 ⟨rfl, K⟩
  have K' := (Kept.refl (fun _ => False) w20).trans K (fun _ _ h => h)
  have HK21 := Lib.hid (HK20.out.trans K' (fun _ _ h => h))
  have HL21 := Lib.hid (HL20.out.same K')
  have HT21 := Lib.hid (HT20.out.same K')
  have HW21 := Lib.hid (HW20.out.same K')
  have HM21 := Lib.hid (HM20.out.same K')
  clear K K' HK20 HL20 HT20 HW20 HM20
  go_wp2_with (go_at_call 22; fail)
  refine (k_most (n := 0) (n_nil _) (by decide) q_most_nil q_most_nil2).mono ?_
  rintro e w22 ⟨rfl, K⟩
  have K' := (Kept.refl (fun _ => False) w21).trans K (fun _ _ h => h)
  have HK22 := Lib.hid (HK21.out.trans K' (fun _ _ h => h))
  have HL22 := Lib.hid (HL21.out.same K')
  have HT22 := Lib.hid (HT21.out.same K')
  have HW22 := Lib.hid (HW21.out.same K')
  have HM22 := Lib.hid (HM21.out.same K')
  clear K K' HK21 HL21 HT21 HW21 HM21
  go_wp2_with (go_at_call 17; fail)
  refine (k_thin (n := 3) (r := 0) (IntsK.new [3, 3, 3] rfl rfl rfl) (by decide) (q_both (by decide) (by decide) (by decide) (by decide)) (if_pos rfl) (by decide)).mono ?_
  rintro e w23 ⟨p2, s2, rfl, K⟩
  have K' := ((Kept.refl (fun _ => False) w22).alloc _).trans K (fun _ _ h => h)
  have HK23 := Lib.hid (HK22.out.trans K' (fun _ _ h => h))
  have HL23 := Lib.hid (HL22.out.same K')
  have HT23 := Lib.hid (HT22.out.same K')
  have HW23 := Lib.hid (HW22.out.same K')
  have HM23 := Lib.hid (HM22.out.same K')
  clear K K' HK22 HL22 HT22 HW22 HM22
  go_wp2_with (go_at_call 14; refine works_t.mono ?_; rintro e wz ⟨rfl, K2⟩)
  go_ret
  exact ⟨rfl, HK23.out.trans K2 (fun _ _ h => h)⟩
end Go.Proofs.Ytelgknecainlfaa

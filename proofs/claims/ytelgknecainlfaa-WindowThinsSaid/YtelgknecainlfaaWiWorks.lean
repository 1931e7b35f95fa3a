/- WiWorks: texts for the statements of this seat: contracts of functions, walks, plain laws. Conditions: none. -/
import Derived.Test.YtelgknecainlfaaWiWorks1
set_option linter.all false
/- The chapter's examples. -/
namespace Go.Proofs.Ytelgknecainlfaa
open Go.RowKit
open Wi (vld Srt chk limB limE inS longE)

set_option maxRecDepth 100000 in
set_option maxHeartbeats 4000000 in
theorem works_c (HP : ∀ {w : World} {v u : Value} {f g : List Int}, Ints w v f → Ints w u g → f.length ≤ 4611686018427387904 → g.length ≤ 4611686018427387904 → Calls Try.prog 23 #[v, u] w (PeakPost f g w)) {w : World} : Calls Try.prog 14 #[] w fun e w' => e = .returned (.bool true) ∧ Kept (fun _ => False) w w' := by
  have H1 := Lib.hid (fun W v (h : Ints W v [0, 0, 0, 5, 10, 40]) => (most_c h (by decide) 10).mono fun _ _ h => w_most h)
  have H2 := Lib.hid (fun W => (bound_c 5 10 10 W).mono fun _ _ h => w_bound h)
  have H3 := Lib.hid (fun W v (h : Ints W v [0, 0, 0, 4]) => (keeps_c h (by decide) 5 10).mono fun _ _ h => w_keeps h)
  have H4 := Lib.hid (fun W v (h : Ints W v [0, 0, 0, 0, 4, 5]) => (thin_c h (by decide) 5 10).mono fun _ _ h => w_thin h)
  have H5 := Lib.hid (fun W v u (h : Ints W v [0, 3, 5]) (k : Ints W u [5, 6, 9]) => (HP h k (by decide) (by decide)).mono fun _ _ h => w_peak h)
  clear HP
  go_enter Try.func14, Try.ntmps14
  go_upto_region 2 with fail
  have HROW := Lib.hid (RowAt.new w 23 #[.int .i64 5, .int .i64 10])
  have HK0 := Lib.hid ((Kept.refl (fun _ => False) w).alloc (.cells #[.int .i64 5, .int .i64 10] 23))
  generalize w.heap.size = b at HROW ⊢
  generalize w.alloc (.cells #[.int .i64 5, .int .i64 10] 23) = w0 at HROW HK0 ⊢
  go_wp2_with (go_at_call 22; fail)
  refine (H1.out _ _ (IntsK.new [0, 0, 0, 5, 10, 40] rfl rfl rfl)).mono ?_
  rintro e w1 ⟨rfl, K⟩
  have HK1 := Lib.hid (HK0.out.trans ((Kept.refl (fun _ => False) w0).alloc _ |>.trans K (fun _ _ h => h)) (fun _ _ h => h))
  have HR1 := Lib.hid (HROW.out.same ((Kept.refl (fun _ => False) w0).alloc _ |>.trans K (fun _ _ h => h)))
  clear K HROW HK0 H1
  have c0 := HR1.out.get (j := 0) rfl
  have c1 := HR1.out.get (j := 1) rfl
  have hb := HR1.out.lt
  go_wp2_with (go_at_call 19; fail)
  refine (H2.out _).mono ?_
  rintro e w2 ⟨rfl, K⟩
  have HK2 := Lib.hid (HK1.out.trans K (fun _ _ h => h))
  have HR2 := Lib.hid (HR1.out.same K)
  clear K HR1 HK1 H2 c0 c1 hb
  have c0 := HR2.out.get (j := 0) rfl
  have c1 := HR2.out.get (j := 1) rfl
  have hb := HR2.out.lt
  go_wp2_with (go_at_call 15; fail)
  refine (H3.out _ _ (IntsK.new [0, 0, 0, 4] rfl rfl rfl)).mono ?_
  rintro e w3 ⟨rfl, K⟩
  have HK3 := Lib.hid (HK2.out.trans ((Kept.refl (fun _ => False) w2).alloc _ |>.trans K (fun _ _ h => h)) (fun _ _ h => h))
  have HR3 := Lib.hid (HR2.out.same ((Kept.refl (fun _ => False) w2).alloc _ |>.trans K (fun _ _ h => h)))
  clear K HR2 HK2 H3 c0 c1 hb
  have c0 := HR3.out.get (j := 0) rfl
  have c1 := HR3.out.get (j := 1) rfl
  have hb := HR3.out.lt
  go_wp2_with (go_at_call 17; fail)
  refine (H4.out _ _ (IntsK.new [0, 0, 0, 0, 4, 5] rfl rfl rfl)).mono ?_
  rintro e w4 ⟨v, rfl, hv, K⟩
  have HK4 := Lib.hid (HK3.out.trans ((Kept.refl (fun _ => False) w3).alloc _ |>.trans K (fun _ _ h => h)) (fun _ _ h => h))
  have HV := Lib.hid hv
  clear K HR3 HK3 H4 c0 c1 hb hv
  go_wp2_with (go_at_call 23; fail)
  have hi1 : Ints (w4.alloc (.cells #[.int .i64 0, .int .i64 3, .int .i64 5] 2)) (.slice (some ⟨w4.heap.size, 0, none⟩) 3 3) [0, 3, 5] := IntsK.new [0, 3, 5] rfl rfl rfl
  refine (H5.out _ _ _ (hi1.same ((Kept.refl (fun _ => False) _).alloc _)) (IntsK.new [5, 6, 9] (by simp) rfl rfl)).mono ?_
  rintro e w5 ⟨rfl, K⟩
  have K5 := (((Kept.refl (fun _ => False) w4).alloc _).alloc _).trans K (fun _ _ h => h)
  have HK5 := Lib.hid (HK4.out.trans K5 (fun _ _ h => h))
  have HV5 := Lib.hid (HV.out.same K5)
  clear K K5 HV HK4 H5
  go_wp2_with (go_at_call 21; fail)
  refine (same_c (HV5.out.same ((Kept.refl (fun _ => False) _).alloc _)) (IntsK.new [0, 0, 0, 5] rfl rfl rfl) (by decide) (by decide)).mono ?_
  rintro e w6 ⟨rfl, K⟩
  have HK6 := Lib.hid (HK5.out.trans ((Kept.refl (fun _ => False) w5).alloc _ |>.trans K (fun _ _ h => h)) (fun _ _ h => h))
  clear K
  go_wp2
  go_ret
  exact ⟨rfl, HK6.out⟩
end Go.Proofs.Ytelgknecainlfaa

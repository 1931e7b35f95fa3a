/- OcWorks: texts for the statements of this seat: contracts of functions, walks, plain laws. Conditions: none. -/
import Derived.Test.YthpbejdigllmbaaDoorOcW5
import Derived.Test.YthpbejdigllmbaaDoorOcW6
import Derived.Test.YthpbejdigllmbaaDoorOcW7
namespace Go.Proofs.YthpbejdigllmbaaDoor
open Go.RowKit

set_option maxHeartbeats 1000000 in
theorem works_c (w : World) (T : Tbl w) : Calls Tryd.prog 14 #[] w fun e w' => e = .returned (.bool true) ∧ Kept (fun _ => False) w w' := by
  have H1 := Lib.hid (step_c 0 2 2 0 w T (by decide +kernel))
  have H2 := Lib.hid (step_c 3 6 0 9 w T (by decide +kernel))
  have HT := Lib.hid T
  clear T
  go_enter Tryd.func14, Tryd.ntmps14
  go_wp2_with fail
  refine H1.out.mono ?_
  rintro e w1 ⟨rfl, rfl⟩
  go_wp2_with fail
  refine H2.out.mono ?_
  rintro e w1 ⟨rfl, rfl⟩
  have KA : Kept (fun _ => False) w (w.alloc (.cells #[.int .i64 1, .int .i64 2, .int .i64 3, .int .i64 5, .int .i64 2, .int .i64 3, .int .i64 4] 3)) := (Kept.refl _ w).alloc _
  have H3 := Lib.hid (path_c (.slice (some ⟨w.heap.size, 0, none⟩) 7 7) [1, 2, 3, 5, 2, 3, 4] (by decide) _ (HT.out.same KA) (IntsK.new (t := 3) [1, 2, 3, 5, 2, 3, 4] rfl rfl rfl))
  have HKA := Lib.hid KA
  clear H1 H2 KA
  go_wp2_with fail
  refine H3.out.mono ?_
  rintro e w1 ⟨rfl, K1⟩
  rw [show pathF [1, 2, 3, 5, 2, 3, 4] = (5, 7, 0) from by decide +kernel]
  have K1' := HKA.out.trans K1 (fun _ _ h => h)
  have T1 := HT.out.same K1'
  have H4 := Lib.hid (words_c 3 4 0 w1 T1 (by decide +kernel))
  have HK1 := Lib.hid K1'
  clear K1 K1' T1 H3 HKA
  go_wp2_with fail
  refine H4.out.mono ?_
  rintro e w2 ⟨rfl, K2⟩
  have K2' := HK1.out.trans K2 (fun _ _ h => h)
  have H5 := Lib.hid (reach_c 3 [2, 3, 4, 5, 6] 0 w2 (HT.out.same K2') (by decide +kernel))
  have HK2 := Lib.hid K2'
  clear K2 K2' HK1 H4
  go_wp2_with fail
  refine H5.out.mono ?_
  rintro e w3 ⟨v, rfl, hown, K3⟩
  have K3' := HK2.out.trans K3 (fun _ _ h => h)
  have H6 := Lib.hid (name_c 4 [119, 97, 105, 116, 105, 110, 103] 0 w3 (HT.out.same K3') (by decide +kernel))
  have HK3 := Lib.hid K3'
  have HI := Lib.hid (IntsK.of_own hown)
  clear K3 K3' HK2 H5 hown
  go_wp2_with fail
  refine H6.out.mono ?_
  rintro e w4 ⟨rfl, rfl⟩
  have KE : Kept (fun _ => False) w3 (w3.alloc (.cells #[.int .i64 2, .int .i64 3, .int .i64 4, .int .i64 5, .int .i64 6] 3)) := (Kept.refl _ w3).alloc _
  have H7 := Lib.hid (equal_c v (.slice (some ⟨w3.heap.size, 0, none⟩) 5 5) [2, 3, 4, 5, 6] [2, 3, 4, 5, 6] true _ (HI.out.same KE) (IntsK.new (t := 3) [2, 3, 4, 5, 6] rfl rfl rfl) (by decide) rfl)
  have HKE := Lib.hid (HK3.out.trans KE (fun _ _ h => h))
  clear KE HI HK3 H6
  go_wp2_with fail
  refine H7.out.mono ?_
  rintro e w5 ⟨rfl, nq, rfl⟩
  go_wp2
  go_ret
  exact ⟨rfl, HKE.out.drewN nq⟩
end Go.Proofs.YthpbejdigllmbaaDoor

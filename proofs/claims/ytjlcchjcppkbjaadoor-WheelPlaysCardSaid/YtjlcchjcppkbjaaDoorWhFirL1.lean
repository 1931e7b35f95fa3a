/- WhFirL1: texts for the statements of this seat: contracts of functions, walks, plain laws. Conditions: none. -/
import Derived.Test.YtjlcchjcppkbjaaDoorWhEn
import Derived.Test.YtjlcchjcppkbjaaDoorGeAll
set_option linter.all false
/- first: a theorem for each level. (Printed by gen_first.py.) -/
namespace Go.Proofs.YtjlcchjcppkbjaaDoor
open Go.RowKit
variable {w : World} {wb base : Nat} {V : Nat → Value} {Q : Nat → List Pt} {kd : Nat → Nat} {fr : Int} {ts : List Pt}
set_option maxRecDepth 100000 in
set_option maxHeartbeats 4000000 in
theorem first_1 (hT : Tab w) (C : Core w wb base V Q kd fr) (hf0 : 0 ≤ fr) (hf1 : fr ≤ 4611686018427387905) (s : Nat) (hs : s < 64) (hne : Q (64 * 1 + s) ≠ []) (hlow : ∀ j, j < 64 * 1 + s → Q j = []) (hge : slt 1 fr ≤ s) :
    Calls Tryd.prog 42 #[.pointer (some ⟨wb, 0, none⟩)] w fun e w' => e = .returned (.tuple #[.int .i64 1, .int .i64 s, .int .i64 (start fr 1 s), .bool true]) ∧ Kept (fun _ => False) w w' := by
  obtain ⟨u0, hu0, c0, b0⟩ := C.U.word 0 (by omega)
  obtain ⟨u1, hu1, c1, b1⟩ := C.U.word 1 (by omega)
  have cf := C.fr
  have lw := C.R.ltw
  have s0 := slt_lt 0 fr
  have HI0 : Hid (∀ W, Calls Tryd.prog 61 #[.int .i64 fr, .int .i64 0] W fun e w' => e = .returned (.int .i64 (slt 0 fr)) ∧ w' = W) := Lib.hid fun W => index_c fr 0 (by omega) hf0 hf1 W
  have HN0 : Hid (∀ W, Kept (fun _ => False) w W → Calls Tryd.prog 62 #[.int .u64 u0, .int .i64 (slt 0 fr)] W fun e w' => e = .returned (.tuple #[.int .i64 0, .bool false]) ∧ w' = W) := Lib.hid fun W _ => next_none hu0 (by omega) (fun j _ hj => by rw [b0 j hj, hlow _ (by omega)]; rfl) W
  have s1 := slt_lt 1 fr
  have HI1 : Hid (∀ W, Calls Tryd.prog 61 #[.int .i64 fr, .int .i64 1] W fun e w' => e = .returned (.int .i64 (slt 1 fr)) ∧ w' = W) := Lib.hid fun W => index_c fr 1 (by omega) hf0 hf1 W
  have HN1 : Hid (∀ W, Kept (fun _ => False) w W → Calls Tryd.prog 62 #[.int .u64 u1, .int .i64 (slt 1 fr)] W fun e w' => e = .returned (.tuple #[.int .i64 s, .bool true]) ∧ w' = W) := Lib.hid fun W k => next_some (hT.kept k (fun h => h)) hu1 hge hs (by rw [b1 s hs]; simpa using hne) (fun j _ hj => by rw [b1 j (by omega), hlow _ (by omega)]; rfl)
  have HX : Hid (start fr 1 s = (fr / 4096 * 64 + s) * 64) := Lib.hid rfl
  have HO : Hid (bits .or .i64 (fr / 4096 * 64) (s : Int) = fr / 4096 * 64 + s) := Lib.hid (or_i64 _ s (by omega) (by omega) (by omega) hs)
  clear C hT hne hlow b0 b1
  generalize slt 0 fr = f0 at HI0 HN0 s0
  generalize slt 1 fr = f1 at HI1 HN1 s1 hge
  rw [HX.out]
  go_enter Tryd.func42, Tryd.ntmps42
  go_wp2
  refine wp_loop_rounds 2 ?_
  rw [rounds_succ]
  go_wp2
  go_quiet ((first | (go_at_call 61; exact Calls.quiet_of_same (HI0.out _)) | (go_at_call 62; exact Calls.quiet_of_same (HN0.out _ (by repeat (first | exact Kept.refl _ _ | refine Kept.drewN ?_ _ | refine Kept.drew ?_))))))
  obtain ⟨m0, rfl⟩ : ∃ m, m = nq := ⟨_, rfl⟩
  go_wp2
  rw [rounds_succ]
  go_wp2
  go_quiet ((first | (go_at_call 61; exact quiet_add_same (HI1.out _)) | (go_at_call 62; exact quiet_add_same (HN1.out _ (by repeat (first | exact Kept.refl _ _ | refine Kept.drewN ?_ _ | refine Kept.drew ?_))))))
  obtain ⟨m1, rfl⟩ : ∃ m, m = nq := ⟨_, rfl⟩
  go_wp2
  have e1 := HO.out
  have e2 : IntKind.i64.wrap ((fr / 4096 * 64 + (s : Int)) * 64) = (fr / 4096 * 64 + (s : Int)) * 64 := IntWalk.i64_in _ (by omega)
  go_quiet (fail)
  go_wp2
  refine bodyPost_ret (results_tmp4 rfl _ _ _) rfl ?_
  exact ⟨by rfl, (by repeat (first | exact Kept.refl _ _ | refine Kept.drewN ?_ _ | refine Kept.drew ?_))⟩
end Go.Proofs.YtjlcchjcppkbjaaDoor

/- WhFirL4: texts for the statements of this seat: contracts of functions, walks, plain laws. Conditions: none. -/
import Derived.Test.YtjlcchjcppkbjaaDoorWhEn
import Derived.Test.YtjlcchjcppkbjaaDoorGeAll
import Derived.Test.YtjlcchjcppkbjaaDoorWhSort
set_option linter.all false
/- first: a theorem for each level. (Printed by gen_first.py.) -/
namespace Go.Proofs.YtjlcchjcppkbjaaDoor
open Go.RowKit
/-- What first answers where all timers are far. -/
def FarPost (w : World) (l : List Pt) (e : Ending) (w' : World) : Prop := ∃ t ∈ l, e = .returned (.tuple #[.int .i64 4, .int .i64 0, .int .i64 (t.x.at_ / 16777216 * 16777216), .bool true]) ∧ (∀ u ∈ l, ¬ u.x.lt t.x) ∧ Kept (fun _ => False) w w'
variable {w : World} {wb base : Nat} {V : Nat → Value} {Q : Nat → List Pt} {kd : Nat → Nat} {fr : Int} {ts : List Pt}
set_option maxRecDepth 100000 in
set_option maxHeartbeats 4000000 in
theorem first_none (C : Core w wb base V Q kd fr) (hf0 : 0 ≤ fr) (hf1 : fr ≤ 4611686018427387905) (hlow : ∀ j, j < 256 → Q j = []) (he : Q 256 = []) :
    Calls Tryd.prog 42 #[.pointer (some ⟨wb, 0, none⟩)] w fun e w' => e = .returned (.tuple #[.int .i64 0, .int .i64 0, .int .i64 0, .bool false]) ∧ Kept (fun _ => False) w w' := by
  obtain ⟨u0, hu0, c0, b0⟩ := C.U.word 0 (by omega)
  obtain ⟨u1, hu1, c1, b1⟩ := C.U.word 1 (by omega)
  obtain ⟨u2, hu2, c2, b2⟩ := C.U.word 2 (by omega)
  obtain ⟨u3, hu3, c3, b3⟩ := C.U.word 3 (by omega)
  have cf := C.fr
  have lw := C.R.ltw
  have c265 := C.R.cell 256 (by omega)
  rw [show off 256 = 265 from rfl] at c265
  have hrow := C.R.row 256 (by omega)
  have s0 := slt_lt 0 fr
  have HI0 : Hid (∀ W, Calls Tryd.prog 61 #[.int .i64 fr, .int .i64 0] W fun e w' => e = .returned (.int .i64 (slt 0 fr)) ∧ w' = W) := Lib.hid fun W => index_c fr 0 (by omega) hf0 hf1 W
  have HN0 : Hid (∀ W, Kept (fun _ => False) w W → Calls Tryd.prog 62 #[.int .u64 u0, .int .i64 (slt 0 fr)] W fun e w' => e = .returned (.tuple #[.int .i64 0, .bool false]) ∧ w' = W) := Lib.hid fun W _ => next_none hu0 (by omega) (fun j _ hj => by rw [b0 j hj, hlow _ (by omega)]; rfl) W
  have s1 := slt_lt 1 fr
  have HI1 : Hid (∀ W, Calls Tryd.prog 61 #[.int .i64 fr, .int .i64 1] W fun e w' => e = .returned (.int .i64 (slt 1 fr)) ∧ w' = W) := Lib.hid fun W => index_c fr 1 (by omega) hf0 hf1 W
  have HN1 : Hid (∀ W, Kept (fun _ => False) w W → Calls Tryd.prog 62 #[.int .u64 u1, .int .i64 (slt 1 fr)] W fun e w' => e = .returned (.tuple #[.int .i64 0, .bool false]) ∧ w' = W) := Lib.hid fun W _ => next_none hu1 (by omega) (fun j _ hj => by rw [b1 j hj, hlow _ (by omega)]; rfl) W
  have s2 := slt_lt 2 fr
  have HI2 : Hid (∀ W, Calls Tryd.prog 61 #[.int .i64 fr, .int .i64 2] W fun e w' => e = .returned (.int .i64 (slt 2 fr)) ∧ w' = W) := Lib.hid fun W => index_c fr 2 (by omega) hf0 hf1 W
  have HN2 : Hid (∀ W, Kept (fun _ => False) w W → Calls Tryd.prog 62 #[.int .u64 u2, .int .i64 (slt 2 fr)] W fun e w' => e = .returned (.tuple #[.int .i64 0, .bool false]) ∧ w' = W) := Lib.hid fun W _ => next_none hu2 (by omega) (fun j _ hj => by rw [b2 j hj, hlow _ (by omega)]; rfl) W
  have s3 := slt_lt 3 fr
  have HI3 : Hid (∀ W, Calls Tryd.prog 61 #[.int .i64 fr, .int .i64 3] W fun e w' => e = .returned (.int .i64 (slt 3 fr)) ∧ w' = W) := Lib.hid fun W => index_c fr 3 (by omega) hf0 hf1 W
  have HN3 : Hid (∀ W, Kept (fun _ => False) w W → Calls Tryd.prog 62 #[.int .u64 u3, .int .i64 (slt 3 fr)] W fun e w' => e = .returned (.tuple #[.int .i64 0, .bool false]) ∧ w' = W) := Lib.hid fun W _ => next_none hu3 (by omega) (fun j _ hj => by rw [b3 j hj, hlow _ (by omega)]; rfl) W
  generalize V 256 = v at c265 hrow
  rw [he] at hrow
  obtain ⟨p, c, rfl⟩ := own_sl hrow
  simp only [List.length_nil] at c265
  clear C hlow he hrow b0 b1 b2 b3
  generalize slt 0 fr = f0 at HI0 HN0 s0
  generalize slt 1 fr = f1 at HI1 HN1 s1
  generalize slt 2 fr = f2 at HI2 HN2 s2
  generalize slt 3 fr = f3 at HI3 HN3 s3
  go_enter Tryd.func42, Tryd.ntmps42
  go_wp2
  refine wp_loop_rounds 5 ?_
  rw [rounds_succ]
  go_wp2
  go_quiet ((first | (go_at_call 61; exact Calls.quiet_of_same (HI0.out _)) | (go_at_call 62; exact Calls.quiet_of_same (HN0.out _ (by repeat (first | exact Kept.refl _ _ | refine Kept.drewN ?_ _ | refine Kept.drew ?_))))))
  obtain ⟨m0, rfl⟩ : ∃ m, m = nq := ⟨_, rfl⟩
  go_wp2
  rw [rounds_succ]
  go_wp2
  go_quiet ((first | (go_at_call 61; exact quiet_add_same (HI1.out _)) | (go_at_call 62; exact quiet_add_same (HN1.out _ (by repeat (first | exact Kept.refl _ _ | refine Kept.drewN ?_ _ | refine Kept.drew ?_))))))
  obtain ⟨m1, rfl⟩ : ∃ m, m = nq := ⟨_, rfl⟩
  go_wp2
  rw [rounds_succ]
  go_wp2
  go_quiet ((first | (go_at_call 61; exact quiet_add_same (HI2.out _)) | (go_at_call 62; exact quiet_add_same (HN2.out _ (by repeat (first | exact Kept.refl _ _ | refine Kept.drewN ?_ _ | refine Kept.drew ?_))))))
  obtain ⟨m2, rfl⟩ : ∃ m, m = nq := ⟨_, rfl⟩
  go_wp2
  rw [rounds_succ]
  go_wp2
  go_quiet ((first | (go_at_call 61; exact quiet_add_same (HI3.out _)) | (go_at_call 62; exact quiet_add_same (HN3.out _ (by repeat (first | exact Kept.refl _ _ | refine Kept.drewN ?_ _ | refine Kept.drew ?_))))))
  obtain ⟨m3, rfl⟩ : ∃ m, m = nq := ⟨_, rfl⟩
  go_wp2
  rw [rounds_succ]
  go_wp2_with fail
  refine bodyPost_ret (results_tmp4 rfl _ _ _) rfl ?_
  exact ⟨by rfl, (by repeat (first | exact Kept.refl _ _ | refine Kept.drewN ?_ _ | refine Kept.drew ?_))⟩
set_option maxRecDepth 100000 in
set_option maxHeartbeats 4000000 in
theorem first_far (C : Core w wb base V Q kd fr) (hf0 : 0 ≤ fr) (hf1 : fr ≤ 4611686018427387905) (hlow : ∀ j, j < 256 → Q j = []) (hne : Q 256 ≠ []) (hlen : (Q 256).length ≤ 1000000) (hat : ∀ t ∈ Q 256, 0 ≤ t.x.at_ ∧ t.x.at_ ≤ 4611686018427387904) :
    Calls Tryd.prog 42 #[.pointer (some ⟨wb, 0, none⟩)] w (FarPost w (Q 256)) := by
  obtain ⟨u0, hu0, c0, b0⟩ := C.U.word 0 (by omega)
  obtain ⟨u1, hu1, c1, b1⟩ := C.U.word 1 (by omega)
  obtain ⟨u2, hu2, c2, b2⟩ := C.U.word 2 (by omega)
  obtain ⟨u3, hu3, c3, b3⟩ := C.U.word 3 (by omega)
  have cf := C.fr
  have lw := C.R.ltw
  have c265 := C.R.cell 256 (by omega)
  rw [show off 256 = 265 from rfl] at c265
  have hrow := C.R.row 256 (by omega)
  have hkey : ∀ t ∈ Q 256, TmKey w t ∧ (V 256).ownBlock ≠ some t.b := fun t ht => ⟨(C.R.tm 256 (by omega) t ht).key, fun e => by have h1 := C.R.kV 256 (by omega) _ e; have h2 := C.R.kT 256 (by omega) t ht; omega⟩
  have s0 := slt_lt 0 fr
  have HI0 : Hid (∀ W, Calls Tryd.prog 61 #[.int .i64 fr, .int .i64 0] W fun e w' => e = .returned (.int .i64 (slt 0 fr)) ∧ w' = W) := Lib.hid fun W => index_c fr 0 (by omega) hf0 hf1 W
  have HN0 : Hid (∀ W, Kept (fun _ => False) w W → Calls Tryd.prog 62 #[.int .u64 u0, .int .i64 (slt 0 fr)] W fun e w' => e = .returned (.tuple #[.int .i64 0, .bool false]) ∧ w' = W) := Lib.hid fun W _ => next_none hu0 (by omega) (fun j _ hj => by rw [b0 j hj, hlow _ (by omega)]; rfl) W
  have s1 := slt_lt 1 fr
  have HI1 : Hid (∀ W, Calls Tryd.prog 61 #[.int .i64 fr, .int .i64 1] W fun e w' => e = .returned (.int .i64 (slt 1 fr)) ∧ w' = W) := Lib.hid fun W => index_c fr 1 (by omega) hf0 hf1 W
  have HN1 : Hid (∀ W, Kept (fun _ => False) w W → Calls Tryd.prog 62 #[.int .u64 u1, .int .i64 (slt 1 fr)] W fun e w' => e = .returned (.tuple #[.int .i64 0, .bool false]) ∧ w' = W) := Lib.hid fun W _ => next_none hu1 (by omega) (fun j _ hj => by rw [b1 j hj, hlow _ (by omega)]; rfl) W
  have s2 := slt_lt 2 fr
  have HI2 : Hid (∀ W, Calls Tryd.prog 61 #[.int .i64 fr, .int .i64 2] W fun e w' => e = .returned (.int .i64 (slt 2 fr)) ∧ w' = W) := Lib.hid fun W => index_c fr 2 (by omega) hf0 hf1 W
  have HN2 : Hid (∀ W, Kept (fun _ => False) w W → Calls Tryd.prog 62 #[.int .u64 u2, .int .i64 (slt 2 fr)] W fun e w' => e = .returned (.tuple #[.int .i64 0, .bool false]) ∧ w' = W) := Lib.hid fun W _ => next_none hu2 (by omega) (fun j _ hj => by rw [b2 j hj, hlow _ (by omega)]; rfl) W
  have s3 := slt_lt 3 fr
  have HI3 : Hid (∀ W, Calls Tryd.prog 61 #[.int .i64 fr, .int .i64 3] W fun e w' => e = .returned (.int .i64 (slt 3 fr)) ∧ w' = W) := Lib.hid fun W => index_c fr 3 (by omega) hf0 hf1 W
  have HN3 : Hid (∀ W, Kept (fun _ => False) w W → Calls Tryd.prog 62 #[.int .u64 u3, .int .i64 (slt 3 fr)] W fun e w' => e = .returned (.tuple #[.int .i64 0, .bool false]) ∧ w' = W) := Lib.hid fun W _ => next_none hu3 (by omega) (fun j _ hj => by rw [b3 j hj, hlow _ (by omega)]; rfl) W
  generalize V 256 = v at c265 hrow hkey
  generalize hq : Q 256 = l at hrow hkey hne hlen hat
  obtain ⟨p, c, rfl⟩ := own_sl hrow
  have hpos : 0 < l.length := List.length_pos_iff.2 hne
  have HM : Hid (∀ W, Kept (fun _ => False) w W → Calls Tryd.prog 52 #[.slice p l.length c, .func (.func 46) #[] #[]] W (MinPost W l)) := Lib.hid fun W k => minP_c l hlen hne (ownsRow_kept hrow k (fun _ _ _ h => h)) (fun t ht => ⟨⟨(k.cell (a := ⟨t.b, 0, none⟩) (hkey t ht).1.lt (fun h => h)).trans (hkey t ht).1.at_, (k.cell (a := ⟨t.b, 3, none⟩) (hkey t ht).1.lt (fun h => h)).trans (hkey t ht).1.seq, Nat.lt_of_lt_of_le (hkey t ht).1.lt k.size⟩, (hkey t ht).2⟩)
  have HAT := Lib.hid hat
  have HKEY : Hid (∀ t ∈ l, ∀ W, Kept (fun _ => False) w W → W.cell? ⟨t.b, 0, none⟩ = some (.int .i64 t.x.at_) ∧ t.b < W.heap.size) := Lib.hid fun t ht W k => ⟨(k.cell (a := ⟨t.b, 0, none⟩) (hkey t ht).1.lt (fun h => h)).trans (hkey t ht).1.at_, Nat.lt_of_lt_of_le (hkey t ht).1.lt k.size⟩
  have j1 : ((l.length : Int) == 0) = false := by simp; exact hne
  clear C hlow hq hne hrow hkey hat hlen b0 b1 b2 b3
  generalize slt 0 fr = f0 at HI0 HN0 s0
  generalize slt 1 fr = f1 at HI1 HN1 s1
  generalize slt 2 fr = f2 at HI2 HN2 s2
  generalize slt 3 fr = f3 at HI3 HN3 s3
  go_enter Tryd.func42, Tryd.ntmps42
  go_wp2
  refine wp_loop_rounds 5 ?_
  rw [rounds_succ]
  go_wp2
  go_quiet ((first | (go_at_call 61; exact Calls.quiet_of_same (HI0.out _)) | (go_at_call 62; exact Calls.quiet_of_same (HN0.out _ (by repeat (first | exact Kept.refl _ _ | refine Kept.drewN ?_ _ | refine Kept.drew ?_))))))
  obtain ⟨m0, rfl⟩ : ∃ m, m = nq := ⟨_, rfl⟩
  go_wp2
  rw [rounds_succ]
  go_wp2
  go_quiet ((first | (go_at_call 61; exact quiet_add_same (HI1.out _)) | (go_at_call 62; exact quiet_add_same (HN1.out _ (by repeat (first | exact Kept.refl _ _ | refine Kept.drewN ?_ _ | refine Kept.drew ?_))))))
  obtain ⟨m1, rfl⟩ : ∃ m, m = nq := ⟨_, rfl⟩
  go_wp2
  rw [rounds_succ]
  go_wp2
  go_quiet ((first | (go_at_call 61; exact quiet_add_same (HI2.out _)) | (go_at_call 62; exact quiet_add_same (HN2.out _ (by repeat (first | exact Kept.refl _ _ | refine Kept.drewN ?_ _ | refine Kept.drew ?_))))))
  obtain ⟨m2, rfl⟩ : ∃ m, m = nq := ⟨_, rfl⟩
  go_wp2
  rw [rounds_succ]
  go_wp2
  go_quiet ((first | (go_at_call 61; exact quiet_add_same (HI3.out _)) | (go_at_call 62; exact quiet_add_same (HN3.out _ (by repeat (first | exact Kept.refl _ _ | refine Kept.drewN ?_ _ | refine Kept.drew ?_))))))
  obtain ⟨m3, rfl⟩ : ∃ m, m = nq := ⟨_, rfl⟩
  go_wp2
  rw [rounds_succ]
  go_wp2_with fail
  generalize hW : w.drewN _ = W
  have K0 : Kept (fun _ => False) w W := by rw [← hW]; exact (by repeat (first | exact Kept.refl _ _ | refine Kept.drewN ?_ _ | refine Kept.drew ?_))
  clear hW
  refine (HM.out W K0).mono ?_
  rintro e w2 ⟨t, ht, rfl, hmin, K1⟩
  have K2 := K0.trans K1 (fun _ _ h => h)
  obtain ⟨t0, t1⟩ := HKEY.out t ht w2 K2
  obtain ⟨t2, t3⟩ := HAT.out t ht
  have HFF : Hid (∀ W', Kept (fun _ => False) w2 W' → FarPost w l (.returned (.tuple #[.int .i64 4, .int .i64 0, .int .i64 (t.x.at_ / 16777216 * 16777216), .bool true])) W') := Lib.hid fun W' k => ⟨t, ht, rfl, hmin, K2.trans k (fun _ _ h => h)⟩
  unfold ptr
  clear ht hmin K0 K1 K2 c265 cf lw c0 c1 c2 c3
  have e2 : IntKind.i64.wrap (t.x.at_ / 16777216 * 16777216) = t.x.at_ / 16777216 * 16777216 := IntWalk.i64_in _ (by omega)
  go_wp2_with fail
  go_quiet (fail)
  go_wp2_with fail
  refine bodyPost_ret (results_tmp4 rfl _ _ _) rfl ?_
  exact HFF.out _ (by repeat (first | exact Kept.refl _ _ | refine Kept.drewN ?_ _ | refine Kept.drew ?_))
end Go.Proofs.YtjlcchjcppkbjaaDoor

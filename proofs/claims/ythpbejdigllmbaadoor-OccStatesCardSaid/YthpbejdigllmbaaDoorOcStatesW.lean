/- OcStatesW: texts for the statements of this seat: contracts of functions, walks, plain laws. Conditions: none. -/
import Derived.Test.YthpbejdigllmbaaDoorOcRef3
namespace Go.Proofs.YthpbejdigllmbaaDoor
open Go.RowKit

theorem stepsUpTo_len6 (s : Nat) : (stepsUpTo s 6).length ≤ 6 := stepsUpTo_len s 6
theorem stepsF_len (s : Int) : (stepsF s).1.length ≤ 6 := by
  unfold stepsF
  split
  · exact stepsUpTo_len _ 6
  · simp
theorem reachF_len (s : Int) : (reachF s).1.length ≤ 100 := by
  unfold reachF
  split
  · rename_i h
    have : ∀ s : Fin 7, (reachT s).length ≤ 100 := by decide +kernel
    have hb : 0 ≤ s ∧ s < 7 := by simpa [isSt] using h
    exact this ⟨s.toNat, by omega⟩
  · simp
set_option maxHeartbeats 2000000 in
set_option maxRecDepth 100000 in
theorem states_c (s t : Int) (w : World) (T : Tbl w) : Calls Tryd.prog 6 #[.int .i64 s, .int .i64 t] w fun e w' => e = .returned (.bool true) ∧ Kept (fun _ => False) w w' := by
  obtain ⟨a, e, h1⟩ : ∃ a e, stepF s t = (a, e) := ⟨_, _, rfl⟩
  obtain ⟨p, g, h2⟩ : ∃ p g, endsF s = (p, g) := ⟨_, _, rfl⟩
  obtain ⟨k, i, h3⟩ : ∃ k i, stepsF s = (k, i) := ⟨_, _, rfl⟩
  obtain ⟨x, m, h4⟩ : ∃ x m, reachF s = (x, m) := ⟨_, _, rfl⟩
  obtain ⟨n, o, h5⟩ : ∃ n o, nameF s = (n, o) := ⟨_, _, rfl⟩
  have hkl : k.length ≤ 6 := by have := stepsF_len s; rw [h3] at this; exact this
  have hxl : x.length ≤ 100 := by have := reachF_len s; rw [h4] at this; exact this
  have A1 := Lib.hid (step_c s t a e w T h1)
  have A2 := Lib.hid (rstep_c s t a e w h1)
  have A3 := Lib.hid (ends_c s p g w h2)
  have A4 := Lib.hid (rends_c s p g w h2)
  have A5 := Lib.hid (steps_c s k i w T h3)
  have HT := Lib.hid T
  have H3 := Lib.hid h3
  have H4 := Lib.hid h4
  have H5 := Lib.hid h5
  clear T h1 h2 h3 h4 h5
  go_enter Tryd.func6, Tryd.ntmps6
  go_wp2_with fail
  refine A1.out.mono ?_
  rintro r w1 ⟨rfl, rfl⟩
  go_wp2_with fail
  refine A2.out.mono ?_
  rintro r w1 ⟨rfl, rfl⟩
  go_wp2_with fail
  refine A3.out.mono ?_
  rintro r w1 ⟨rfl, rfl⟩
  go_wp2_with fail
  refine A4.out.mono ?_
  rintro r w1 ⟨rfl, rfl⟩
  go_wp2_with fail
  refine A5.out.mono ?_
  rintro r w1 ⟨v1, rfl, hown1, K1⟩
  have A6 := Lib.hid (rsteps_c s k i w1 H3.out)
  have HI1 := Lib.hid (IntsK.of_own hown1)
  have HK1 := Lib.hid K1
  clear hown1 K1 A1 A2 A3 A4 A5
  go_wp2_with fail
  refine A6.out.mono ?_
  rintro r w2 ⟨v2, rfl, hown2, K2⟩
  have A7 := Lib.hid (equal_c v1 v2 k k true w2 (HI1.out.same K2) (IntsK.of_own hown2) (by omega) (by simp))
  have HK2 := Lib.hid (HK1.out.trans K2 (fun _ _ h => h))
  clear hown2 K2 HK1 HI1 A6
  go_wp2_with fail
  refine A7.out.mono ?_
  rintro r w3 ⟨rfl, nq, hw3⟩
  have K3 : Kept (fun _ => False) w w3 := hw3 ▸ HK2.out.drewN nq
  have A8 := Lib.hid (reach_c s x m w3 (HT.out.same K3) H4.out)
  have HK3 := Lib.hid K3
  clear hw3 K3 A7 HK2
  go_wp2_with fail
  refine A8.out.mono ?_
  rintro r w4 ⟨v4, rfl, hown4, K4⟩
  have A9 := Lib.hid (rreach_c s x m w4 H4.out)
  have HI4 := Lib.hid (IntsK.of_own hown4)
  have HK4 := Lib.hid (HK3.out.trans K4 (fun _ _ h => h))
  clear hown4 K4 A8 HK3
  go_wp2_with fail
  refine A9.out.mono ?_
  rintro r w5 ⟨v5, rfl, hown5, K5⟩
  have K5' := HK4.out.trans K5 (fun _ _ h => h)
  have A10 := Lib.hid (name_c s n o w5 (HT.out.same K5') H5.out)
  have HI5 := Lib.hid (And.intro (HI4.out.same K5) (IntsK.of_own hown5))
  have HK5 := Lib.hid K5'
  clear hown5 K5 K5' A9 HK4 HI4
  go_wp2_with fail
  refine A10.out.mono ?_
  rintro r w6 ⟨rfl, rfl⟩
  have A11 := Lib.hid (rname_c s n o w5 H5.out)
  clear A10
  go_wp2_with fail
  refine A11.out.mono ?_
  rintro r w7 ⟨rfl, K7⟩
  have A12 := Lib.hid (equal_c v4 v5 x x true w7 (HI5.out.1.same K7) (HI5.out.2.same K7) (by omega) (by simp))
  have HK7 := Lib.hid (HK5.out.trans K7 (fun _ _ h => h))
  generalize (⟨n.toArray⟩ : ByteArray) = q
  clear K7 HK5 HI5 A11
  go_wp2_with fail
  refine A12.out.mono ?_
  rintro r w8 ⟨rfl, nq, hw8⟩
  have K8 : Kept (fun _ => False) w w8 := hw8 ▸ HK7.out.drewN nq
  have A13 := Lib.hid (works_c w8 (HT.out.same K8))
  have HK8 := Lib.hid K8
  clear hw8 K8 A12 HK7
  go_wp2_with fail
  refine A13.out.mono ?_
  rintro r w9 ⟨rfl, K9⟩
  go_wp2
  go_ret
  exact ⟨rfl, HK8.out.trans K9 (fun _ _ h => h)⟩
end Go.Proofs.YthpbejdigllmbaaDoor

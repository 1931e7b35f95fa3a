/- OcTableW: texts for the statements of this seat: contracts of functions, walks, plain laws. Conditions: none. -/
import Derived.Test.YthpbejdigllmbaaDoorOcWorks
import Derived.Test.YthpbejdigllmbaaDoorOcSorted
import Derived.Test.YthpbejdigllmbaaDoorOcTabPlain
namespace Go.Proofs.YthpbejdigllmbaaDoor
open Go.RowKit

theorem step_n (s t : Int) (w : World) (h : ¬ (isSt s = true ∧ isSp t = true)) :
    Calls Tryd.prog 18 #[.int .i64 s, .int .i64 t] w fun r w' => r = .returned (.tuple #[.int .i64 0, .int .i64 3]) ∧ w = w' := by
  have hF : stepF s t = (0, 3) := by
    unfold stepF; rw [if_neg]; simp; intro h1; simpa [h1] using h
  have := step_no s t w h
  rw [hF] at this
  exact this
set_option maxHeartbeats 4000000 in
set_option maxRecDepth 100000 in
theorem table_c (s t : Int) (s1 : -9223372036854775808 ≤ s) (s2 : s ≤ 9223372036854775807) (w : World) (T : Tbl w) : Calls Tryd.prog 11 #[.int .i64 s, .int .i64 t] w fun e w' => e = .returned (.bool true) ∧ Kept (fun _ => False) w w' := by
  have HT := Lib.hid T
  clear T
  obtain ⟨r, hr⟩ : ∃ r, s.tmod 7 = r := ⟨_, rfl⟩
  have hr1 : -7 < r ∧ r < 7 := by
    rw [← hr]
    rcases Int.le_total 0 s with h | h
    · rw [Int.tmod_eq_emod_of_nonneg h]; omega
    · have := Int.neg_tmod (-s) 7
      rw [Int.neg_neg] at this
      rw [this, Int.tmod_eq_emod_of_nonneg (by omega)]; omega
  obtain ⟨r1, r2⟩ := hr1
  have hy : ∃ y : Nat, y < 7 ∧ r % 7 = (y : Int) := by
    obtain ⟨y, hy⟩ := Int.eq_ofNat_of_zero_le (show 0 ≤ r % 7 by omega)
    exact ⟨y, by omega, hy⟩
  obtain ⟨y, hy7, hy⟩ := hy
  have R0 : NumsAt (w.alloc (.cells #[.int .i64 s, .int .i64 y] 3)) w.heap.size [s, (y : Int)] := RowAt.new w 3 _
  have HR0 := Lib.hid R0
  clear R0
  have HY2 : Hid ((r + 7) % 7 = (y : Int)) := Lib.hid (by omega)
  have HY3 := Lib.hid hy
  clear hy
  go_enter Tryd.func11, Tryd.ntmps11
  go_wp2
  rw [HY2.out, HY3.out]
  clear hr
  go_loopw [27] (fun i wr => ∃ k : Nat, k ≤ 2 ∧ i = .int .i64 k ∧ Kept (fun _ => False) w wr ∧ NumsAt wr w.heap.size [s, (y : Int)]) (fun i _ => 2 - (intOf i).toNat)
  case atStart => exact ⟨0, by omega, rfl, (Kept.refl _ w).alloc _, HR0.out⟩
  case round =>
    clear HR0
    obtain ⟨k, hk, rfl, K, N⟩ := hrel
    obtain ⟨wa, rfl⟩ : ∃ wa : World, wa = wr := ⟨_, rfl⟩
    have TA := HT.out.same K
    by_cases hlt : k < 2
    · have hc := N.get (j := k) (by simpa using hlt)
      have hkb : decide ((k : Int) < 2) = true := by simp; omega
      have HKN := Lib.hid (And.intro K N)
      have HTA := Lib.hid TA
      clear K N TA
      generalize [s, (y : Int)].getD k 0 = z at hc
      by_cases hz : isSt z = true
      · have hzb : 0 ≤ z ∧ z < 7 := by simpa [isSt] using hz
        obtain ⟨x, rfl⟩ := Int.eq_ofNat_of_zero_le hzb.1
        have hx : x < 7 := by omega
        have A1 := Lib.hid (steps_yes x wa HTA.out hz)
        rw [Int.toNat_natCast] at A1
        clear hzb
        go_wp2_with fail
        refine A1.out.mono ?_
        rintro e w1 ⟨v, rfl, hown, K1⟩
        have A2 := Lib.hid (ends_c x (decide (x = 5 ∨ x = 6)) 0 w1 (by
          have e5 : ((x : Int) = 5 ∨ (x : Int) = 6) ↔ (x = 5 ∨ x = 6) := by omega
          unfold endsF; rw [if_pos hz]; simp only [e5]))
        obtain ⟨L, hL⟩ : ∃ L, (stepsUpTo x 6).length = L := ⟨_, rfl⟩
        have hL6 : L ≤ 6 := by have := stepsUpTo_len x 6; omega
        have hno := steps_none ⟨x, hx⟩
        simp only at hno
        rw [hL] at hown hno
        have hlb : ((L : Int) == 0) = decide (x = 5 ∨ x = 6) := by
          rw [← hno, Bool.eq_iff_iff]; simp
        generalize decide (x = 5 ∨ x = 6) = B at A2 hlb
        have I1 : Ints w1 v (stepsUpTo x 6) := IntsK.of_own (by rw [hL]; exact hown)
        obtain ⟨a, c, hv⟩ := I1.len
        rw [hL] at hv
        subst hv
        have HI := Lib.hid I1
        have HL := Lib.hid hL
        have HK1 := Lib.hid (HKN.out.1.trans K1 (fun _ _ h => h))
        have HN1 := Lib.hid (HKN.out.2.same K1)
        have T1 := HTA.out.same K1
        have HT1 := Lib.hid T1
        have hxb1 : ¬ (x : Int) < 0 := by omega
        have hxb2 : ¬ 6 < (x : Int) := by omega
        clear A1 I1 hL hown K1 T1 hno
        go_wp2_with fail
        refine A2.out.mono ?_
        rintro e w2 ⟨rfl, rfl⟩
        clear A2
        go_wp2
        go_loop [96] (fun i => ∃ j : Nat, j ≤ 8 ∧ i = .int .i64 j) (fun i => 8 - (intOf i).toNat)
        case atStart => exact ⟨0, by omega, rfl⟩
        case round =>
          obtain ⟨j, hj, rfl⟩ := hrel
          by_cases hj8 : j < 8
          · have hsh := steps_has ⟨x, hx⟩ ⟨j, hj8⟩
            simp only at hsh
            by_cases hj0 : j = 0
            · subst hj0
              have B1 := Lib.hid (step_n x 0 w1 (by simp [isSp]))
              clear hsh
              rw [show ((0 : Nat) : Int) = 0 from rfl]
              go_wp2_with (go_at_call 18; refine B1.out.mono ?_; rintro e w' ⟨rfl, rfl⟩)
              go_round
              case rel => exact ⟨1, by omega, by go_num⟩
              case measure => simp [intOf]
            · by_cases hj7 : j = 7
              · subst hj7
                have B1 := Lib.hid (step_n x 7 w1 (by simp [isSp]))
                clear hsh
                rw [show ((7 : Nat) : Int) = 7 from rfl]
                go_wp2_with (go_at_call 18; refine B1.out.mono ?_; rintro e w' ⟨rfl, rfl⟩)
                go_round
                case rel => exact ⟨8, by omega, by go_num⟩
                case measure => simp [intOf]
              · have c1 : ¬ (j : Int) < 1 := by omega
                have c2 : ¬ 6 < (j : Int) := by omega
                have hle : lead x j = leadN x (j - 1) := by unfold lead; simp
                have hsp : isSp (j : Int) = true := by simp [isSp]; omega
                have hbd := leadN_bd ⟨x, by omega⟩ ⟨j - 1, by omega⟩
                simp only at hbd
                have hjr : decide (1 ≤ j ∧ j ≤ 6) = true := by simp; omega
                rw [hjr, Bool.true_and] at hsh
                by_cases hq : leadN x (j - 1) = -1
                · have B1 := Lib.hid (step_e x j w1 HT1.out hz hsp (by rw [hle, hq]))
                  have B2 := Lib.hid (contains_c _ (stepsUpTo x 6) j false w1 HI.out (by have := HL.out; omega) (by rw [hsh]; simp [hq]))
                  clear hsh hle hsp hbd hjr hq hj0 hj7
                  go_wp2_with (first | (go_at_call 18; refine B1.out.mono ?_; rintro e w' ⟨rfl, rfl⟩) | (go_at_call 36; refine B2.out.mono ?_; rintro e w' ⟨rfl, rfl⟩))
                  go_round
                  case rel => exact ⟨j + 1, by omega, by go_num⟩
                  case measure => simp [intOf]; omega
                · have B1 := Lib.hid (step_b x j w1 HT1.out hz hsp (by rw [hle]; exact hq))
                  rw [hle] at B1
                  have B2 := Lib.hid (contains_c _ (stepsUpTo x 6) j true w1 HI.out (by have := HL.out; omega) (by rw [hsh]; simp [hq]))
                  have q1 : ¬ leadN x (j - 1) < 0 := by omega
                  have q2 : ¬ 6 < leadN x (j - 1) := by omega
                  clear hsh hle hsp hbd hjr hq hj0 hj7
                  generalize leadN x (j - 1) = q at B1 q1 q2
                  go_wp2_with (first | (go_at_call 18; refine B1.out.mono ?_; rintro e w' ⟨rfl, rfl⟩) | (go_at_call 36; refine B2.out.mono ?_; rintro e w' ⟨rfl, rfl⟩))
                  go_round
                  case rel => exact ⟨j + 1, by omega, by go_num⟩
                  case measure => simp [intOf]; omega
          · obtain rfl : j = 8 := by omega
            obtain ⟨so1, so2⟩ := steps_sorted ⟨x, hx⟩
            simp only at so1 so2
            have C1 := Lib.hid (isSorted_c _ (stepsUpTo x 6) w1 HI.out so1 (by have := HL.out; omega))
            have SO2 := Lib.hid so2
            clear so1 so2
            go_wp2_with fail
            refine C1.out.mono ?_
            rintro e w2 ⟨rfl, nq, hw2⟩
            have K2 : Kept (fun _ => False) w1 w2 := hw2 ▸ drewN_kept _ _ _
            have C2 := Lib.hid (clone_c _ (stepsUpTo x 6) w2 (HI.out.same K2) (by have := HL.out; omega))
            have HN2 := Lib.hid (HN1.out.same K2)
            have HK2 := Lib.hid (HK1.out.trans K2 (fun _ _ h => h))
            clear hw2 K2 C1
            go_wp2_with fail
            refine C2.out.mono ?_
            rintro e w3 ⟨vc, rfl, hoc, K3⟩
            rw [HL.out] at hoc
            have HN3 := Lib.hid (HN2.out.same K3)
            have HK3 := Lib.hid (HK2.out.trans K3 (fun _ _ h => h))
            have hw2l := HN2.out.lt
            clear K3 C2 HN2 HK2
            by_cases hL0 : L = 0
            · subst hL0
              obtain ⟨ac, cc, rfl⟩ : ∃ ac cc, vc = .slice ac 0 cc := by
                rcases hoc.2 with ⟨rfl, h0⟩ | ⟨g, cap, cur, rfl, -⟩
                · exact ⟨none, 0, rfl⟩
                · exact ⟨_, _, rfl⟩
              have C3 := Lib.hid (Tryd.slices_Compact_int_empty ac cc w3)
              clear hoc
              go_wp2_with fail
              refine C3.out.mono ?_
              rintro e w4 ⟨rfl, rfl⟩
              go_wp2
              go_roundw
              case rel => exact ⟨k + 1, by omega, by go_num, HK3.out, HN3.out⟩
              case measure => simp [intOf]; omega
            · obtain ⟨gc, cc, rfl, hgc⟩ := ownsRow_pos hoc (by omega)
              have C3 := Lib.hid (compact_c (stepsUpTo x 6) HL.out (by omega) (by omega) hoc)
              clear hoc
              go_wp2_with fail
              refine C3.out.mono ?_
              rintro e w4 ⟨v4, rfl, I4, K4⟩
              rw [SO2.out] at I4
              obtain ⟨a4, c4, hv4⟩ := I4.len
              rw [HL.out] at hv4
              subst hv4
              have HN4 := Lib.hid (HN3.out.kept K4 (fun h => by omega))
              have HK4 := Lib.hid (HK3.out.trans K4 (fun i hi h => by omega))
              clear I4 K4 C3
              go_wp2
              go_roundw
              case rel => exact ⟨k + 1, by omega, by go_num, HK4.out, HN4.out⟩
              case measure => simp [intOf]; omega
      · have hzf : isSt z = false := by simpa using hz
        have A1 := Lib.hid (steps_no z wa hzf)
        have A2 := Lib.hid (fun W => ends_c z false 3 W (by unfold endsF; rw [hzf]; rfl))
        have A3 := Lib.hid (fun W => step_n z 2 W (by rw [hzf]; simp))
        have A4 := Lib.hid (fun W T => name_c z [] 3 W T (by unfold nameF; rw [hzf]; rfl))
        have hzc : z < 0 ∨ (¬ z < 0 ∧ 6 < z) := by
          simp [isSt] at hzf; omega
        clear hz hzf
        rcases hzc with hzc | ⟨hzc, hzd⟩
        all_goals
          go_wp2_with fail
          refine A1.out.mono ?_
          rintro e w1 ⟨v, rfl, hown, K1⟩
          obtain ⟨a, c, rfl⟩ : ∃ a c, v = .slice a 0 c := by
            rcases hown.2 with ⟨rfl, h0⟩ | ⟨g, cap, cur, rfl, -⟩
            · exact ⟨none, 0, rfl⟩
            · exact ⟨_, _, rfl⟩
          have HK1 := Lib.hid (HKN.out.1.trans K1 (fun _ _ h => h))
          have HN1 := Lib.hid (HKN.out.2.same K1)
          have HT1 := Lib.hid (HTA.out.same K1)
          clear hown K1
          go_wp2_with fail
          refine (A2.out _).mono ?_
          rintro e w2 ⟨rfl, rfl⟩
          go_wp2_with fail
          refine (A3.out _).mono ?_
          rintro e w2 ⟨rfl, rfl⟩
          go_wp2_with fail
          refine (A4.out _ HT1.out).mono ?_
          rintro e w2 ⟨rfl, rfl⟩
          go_wp2
          go_roundw
          case rel => exact ⟨k + 1, by omega, by go_num, HK1.out, HN1.out⟩
          case measure => simp [intOf]; omega
    · obtain rfl : k = 2 := by omega
      have HK := Lib.hid K
      have HW := Lib.hid (works_c wa TA)
      have hT := Lib.hid TA
      clear N K TA
      by_cases ht : isSp t = true
      · have htb : 1 ≤ t ∧ t < 7 := by simpa [isSp] using ht
        have c1 : decide (t < 1) = false := by simp; omega
        have c2 : decide (6 < t) = false := by simp; omega
        obtain ⟨n, e, hse⟩ : ∃ n e, stepF 0 t = (n, e) := ⟨_, _, rfl⟩
        have he : e = 0 ∨ e = 9 := by
          unfold stepF at hse
          rw [ht] at hse
          simp [isSt] at hse
          split at hse <;> simp at hse <;> omega
        have A := Lib.hid (step_c 0 t n e wa hT.out hse)
        clear hse ht htb
        rcases he with rfl | rfl
        all_goals
          go_wp2_with fail
          refine A.out.mono ?_
          rintro e w1 ⟨rfl, rfl⟩
          go_wp2_with fail
          refine HW.out.mono ?_
          rintro e w2 ⟨rfl, K2⟩
          go_wp2
          go_ret
          exact ⟨rfl, HK.out.trans K2 (fun _ _ h => h)⟩
      · have A := Lib.hid (step_n 0 t wa (by simp [ht]))
        have htc : t < 1 ∨ (¬ t < 1 ∧ 6 < t) := by
          simp [isSp] at ht; omega
        clear ht
        rcases htc with c1 | ⟨c1, c2⟩
        all_goals
          go_wp2_with fail
          refine A.out.mono ?_
          rintro e w1 ⟨rfl, rfl⟩
          go_wp2_with fail
          refine HW.out.mono ?_
          rintro e w2 ⟨rfl, K2⟩
          go_wp2
          go_ret
          exact ⟨rfl, HK.out.trans K2 (fun _ _ h => h)⟩
end Go.Proofs.YthpbejdigllmbaaDoor

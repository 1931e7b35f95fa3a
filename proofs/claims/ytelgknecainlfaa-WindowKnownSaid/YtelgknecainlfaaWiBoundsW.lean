/- The walk of the statement WindowBounds. -/
import Derived.Test.YtelgknecainlfaaWiBoundsPlain
import Derived.Deep.RegionWith
import Derived.Deep.CutRange
import Derived.Deep.DeepCutAuto
namespace Go.Proofs.Ytelgknecainlfaa
open Go.RowKit
open Wi (vld Srt chk longE limE)

theorem boundE_in {T U d : Int} (hl : limE T U = 0) (hT : T ≠ 0) (h : longE d = 0) : boundE T U d = 0 ∧ boundF T U d = (d + U) / T + 1 := by
  have e : boundE T U d = 0 := by unfold boundE; rw [if_neg (by simp [hl]), if_neg hT]; exact h
  exact ⟨e, by unfold boundF; rw [if_pos e]⟩
theorem boundE_out {T U d : Int} (hl : limE T U = 0) (hT : T ≠ 0) (h : longE d = 2) : boundE T U d = 2 ∧ boundF T U d = 0 := by
  have e : boundE T U d = 2 := by unfold boundE; rw [if_neg (by simp [hl]), if_neg hT]; exact h
  exact ⟨e, by unfold boundF; rw [if_neg (by rw [e]; decide)]⟩
/-- What is left of a count. -/
def vmeas (n : Nat) (v : Value) : Nat := match v with | .int _ x => (n - x).toNat | _ => 0
/-- b says whether P. -/
def Bq (b : Bool) (P : Prop) : Prop := b = true ↔ P
set_option maxRecDepth 100000 in
set_option maxHeartbeats 4000000 in
theorem bounds_w {w : World} {v : Value} {l : List Int} (h : Ints w v l) (hl : l.length ≤ maxLen) (T U L : Int) : Calls Try.prog 4 #[.agg #[.int .i64 T, .int .i64 U], v, .int .i64 L] w fun e w' => e = .returned (.bool true) ∧ Kept (fun _ => False) w w' := by
  have HK0 := Lib.hid ((Kept.refl (fun _ => False) w).alloc (.cells #[.int .i64 T, .int .i64 U] 23))
  have HROW := Lib.hid (RowAt.new w 23 #[.int .i64 T, .int .i64 U])
  by_cases g1 : 100 < l.length
  · obtain ⟨aa, cap, rfl⟩ := h.len
    have hl2 := maxlen_le hl
    clear h hl
    generalize l.length = n at g1 hl2 ⊢
    have g2 : (100 : Int) < n := by omega
    go_enter Try.func4, Try.ntmps4
    go_wp2_with (go_at_call 14; refine works_t.mono ?_; rintro e w2 ⟨rfl, K⟩)
    go_ret
    exact ⟨rfl, HK0.out.trans K (fun _ _ h => h)⟩
  by_cases gT : T = 0
  · subst gT
    obtain ⟨aa, cap, rfl⟩ := h.len
    clear h hl
    generalize l.length = n at g1 ⊢
    have g2 : ¬ (100 : Int) < n := by omega
    have c0 := HROW.out.get (j := 0) rfl
    go_enter Try.func4, Try.ntmps4
    go_wp2_with (go_at_call 14; refine works_t.mono ?_; rintro e w2 ⟨rfl, K⟩)
    go_ret
    exact ⟨rfl, HK0.out.trans K (fun _ _ h => h)⟩
  have hl' : l.length ≤ 4611686018427387904 := by omega
  have HQ := Lib.hid h
  have HC1 := Lib.hid (fun W (K : Kept (fun _ => False) w W) => keeps_c (h.same K) hl' T U)
  have HM := Lib.hid (fun W (K : Kept (fun _ => False) w W) => most_c (h.same K) hl' L)
  obtain ⟨aa, cap, rfl⟩ := h.len
  obtain ⟨n, hnn⟩ : ∃ n : Nat, n = l.length := ⟨_, rfl⟩
  rw [← hnn] at g1 HQ HC1 HM ⊢
  have HN := Lib.hid hnn
  have g2 : ¬ (100 : Int) < n := by omega
  have gT2 : (T == 0) = false := by simpa using gT
  clear h hl hl' hnn
  by_cases hz : bothE T U l = 0
  · obtain ⟨hlim, hgd⟩ := bothE_ok hz
    have hc := Wi.chk_good.2 hgd
    obtain ⟨⟨t1, t2⟩, ⟨u1, u2⟩, -⟩ := limE_ok hlim
    have HZ := Lib.hid hz
    have HLIM := Lib.hid hlim
    rcases longE_cases L with ⟨hlg, hL, hL2⟩ | ⟨hlg, hL⟩
    · have HE : Hid (mostE l L = 0) := Lib.hid ((mostE_long hc).trans hlg)
      have HB := Lib.hid (boundE_in hlim gT hlg)
      have HSR := Lib.hid hgd.srt
      have HVL := Lib.hid hgd.vld
      clear hgd hlg hc hz hlim
      go_enter Try.func4, Try.ntmps4
      go_upto_region 3 with (fail)
      generalize w.heap.size = rb at HROW ⊢
      generalize w.alloc (.cells #[.int .i64 T, .int .i64 U] 23) = w0 at HROW HK0 ⊢
      have c0 := HROW.out.get (j := 0) rfl
      have c1 := HROW.out.get (j := 1) rfl
      have hb := HROW.out.lt
      go_wp2_with (go_at_call 15; fail)
      refine (HC1.out _ HK0.out).mono ?_
      rintro e w1 ⟨ki, kj, kb, rfl, hr, K⟩
      have HREL := Lib.hid hr
      have HK1 := Lib.hid (HK0.out.trans K (fun _ _ h => h))
      have HR1 := Lib.hid (HROW.out.same K)
      clear hr K HK0 HROW c0 c1 hb HC1
      go_wp2_with (go_at_call 22; fail)
      refine (HM.out _ HK1.out).mono ?_
      rintro e w2 ⟨m, rfl, hm1, hm2, K⟩
      have HMX := Lib.hid hm1
      have HK2 := Lib.hid (HK1.out.trans K (fun _ _ h => h))
      have HR2 := Lib.hid (HR1.out.same K)
      clear hm1 K HK1 HR1 HM
      have c0 := HR2.out.get (j := 0) rfl
      have c1 := HR2.out.get (j := 1) rfl
      have hb := HR2.out.lt
      go_wp2_with (go_at_call 19; fail)
      refine (bound_c T U L _).mono ?_
      rintro e w3 ⟨rfl, K⟩
      have HK3 := Lib.hid (HK2.out.trans K (fun _ _ h => h))
      have HR3 := Lib.hid (HR2.out.same K)
      clear K HK2 HR2 c0 c1 hb
      rw [HZ.out, HE.out, HB.out.1, HB.out.2]
      have HIS : Hid (kb = true ↔ ∀ a b, a < b → ¬ Ey T U l a b) := Lib.hid (by have := HREL.out; rw [if_pos HZ.out] at this; exact keepsR_all this)
      have HMX2 : Hid (MaxOf (okp l L) m) := Lib.hid (by have := HMX.out; rw [if_pos HE.out] at this; exact this)
      have hq := quo_bd (x := L + U) (T := T) (by omega) (by omega)
      clear HMX HREL
      have HBD : Hid ((∀ a b, a < b → ¬ Ey T U l a b) → (m : Int) ≤ (L + U) / T + 1) := Lib.hid fun hk => most_bound (by omega) hk u1 hL HMX2.out
      generalize hbnd : (L + U) / T = bnd at HBD hq ⊢
      clear hbnd HMX2
      go_wp2
      go_loopw [15, 16] (fun kv iv' wr => ∃ (i : Nat) (kp : Bool), i ≤ n ∧ iv' = .int .i64 i ∧ kv = .bool kp ∧ Bq kp (PB T U l i (i + 1)) ∧ Kept (fun _ => False) w3 wr) (fun _ i _ => match i with | .int _ x => (n - x).toNat | _ => 0)
      case atStart => exact ⟨0, true, Nat.zero_le _, rfl, rfl, ⟨fun _ => PB.start T U l, fun _ => rfl⟩, Kept.refl _ _⟩
      case round =>
        obtain ⟨i, kp, hi, rfl, rfl, hkp, K⟩ := hrel
        have HKP := Lib.hid hkp
        have HK := Lib.hid K
        clear hkp K
        by_cases hlt : i < n
        · have hil : i < l.length := by have := HN.out; omega
          have HX := Lib.hid (get_of hil)
          have hx := HVL.out l[i] (List.getElem_mem hil)
          generalize l[i] = x at HX hx
          go_wp2
          go_loopw [15, 17] (fun kv jv wy => ∃ (k : Nat) (kq : Bool), i < k ∧ k ≤ n ∧ jv = .int .i64 k ∧ kv = .bool kq ∧ Bq kq (PB T U l i k) ∧ Kept (fun _ => False) w3 wy) (fun _ i _ => match i with | .int _ x => (n - x).toNat | _ => 0)
          case atStart => exact ⟨i + 1, kp, by omega, by omega, by go_num, rfl, HKP.out, HK.out⟩
          case round =>
            obtain ⟨k, kq, hik, hkn, rfl, rfl, hkq, K⟩ := hrel
            have HKQ := Lib.hid hkq
            have HKY := Lib.hid K
            clear hkq K
            by_cases hlt2 : k < n
            · have hkl : k < l.length := by have := HN.out; omega
              obtain ⟨b0, off, cap', hv, hb0, hcell⟩ := ((HQ.out.same HK3.out).same HKY.out).pos (by have := HN.out; omega)
              rw [← HN.out] at hv
              injection hv with e1 e2 e3
              subst e1 e3
              have a1 := IntsK.at hcell hkl
              have a0 := hcell i x HX.out
              clear hcell
              have hy := HVL.out l[k] (List.getElem_mem hkl)
              have HY := Lib.hid (get_of hkl)
              generalize l[k] = y at a1 hy HY
              have hxy := HSR.out.mono (Nat.le_of_lt hik) HX.out HY.out
              have c0 := (HR3.out.same HKY.out).get (j := 0) rfl
              have c1 := (HR3.out.same HKY.out).get (j := 1) rfl
              have hbl := (HR3.out.same HKY.out).lt
              have hw : IntKind.i64.wrap (y - x) = y - x := IntWalk.i64_in _ (by omega)
              have HEY := Lib.hid (ey_div (U := U) (show 0 < T by omega) HX.out HY.out)
              have HST := Lib.hid (PB.step (T := T) (U := U) hik hkl)
              have hRT := HR3.out.same HKY.out
              have HRT := Lib.hid hRT
              clear hRT
              have HC : Hid (∀ W, Calls Try.prog 19 #[.agg #[.int .i64 T, .int .i64 U], .int .i64 (IntKind.i64.wrap (y - x))] W fun e w' => e = .returned (.tuple #[.int .i64 (boundF T U (y - x)), .int .i64 (boundE T U (y - x))]) ∧ Kept (fun _ => False) W w') := Lib.hid fun W => by
                rw [hw]
                exact bound_c T U (y - x) W
              clear hw
              go_upto_region 15 with fail
              go_cut [18, 19] from 74 to 87 (fun s18 s19 wx => s18 = .int .i64 (boundF T U (y - x)) ∧ s19 = .int .i64 (boundE T U (y - x)) ∧ Kept (fun _ => False) w3 wx)
              case first =>
                go_region_with (go_at_call 19; refine (HC.out _).mono ?_; rintro e w5 ⟨rfl, K5⟩; have HK5 := Lib.hid (HKY.out.drew.trans K5 (fun _ _ h => h)); clear K5)
                all_goals
                  go_wp2_with fail
                  go_meet
                  exact ⟨rfl, rfl, HK5.out⟩
              case rest =>
                obtain ⟨rfl, rfl, K1⟩ := hcut
                have HK1 := Lib.hid K1
                clear K1
                rcases longE_cases (y - x) with ⟨hlg, hd, hd2⟩ | ⟨hlg, hd⟩
                · have HBX := Lib.hid (boundE_in HLIM.out gT hlg)
                  have hq2 := quo_bd (x := y - x + U) (T := T) (by omega) (by omega)
                  have HLE := Lib.hid (le_quo (m := (k : Int) - i) (d := y - x + U) (show 0 < T by omega))
                  rw [HBX.out.1, HBX.out.2]
                  generalize (y - x + U) / T = qt at hq2 HLE ⊢
                  clear hlg a0 a1 c0 c1 HBX HC
                  obtain ⟨hq3, hq4, hq5⟩ := hq2
                  clear hq3
                  by_cases hok : (k : Int) - i + 1 ≤ qt + 1
                  · have HNE : Hid (¬ Ey T U l i k) := Lib.hid (HEY.out.2 (HLE.out.1 hok))
                    have HN2 : Hid (Bq kq (PB T U l i (k + 1))) := Lib.hid ⟨fun h => HST.out.2 ⟨HKQ.out.1 h, HNE.out⟩, fun h => HKQ.out.2 (HST.out.1 h).1⟩
                    cases kq with
                    | true =>
                      go_wp2
                      go_roundw
                      case rel => exact ⟨k + 1, true, by omega, by omega, by go_num, rfl, HN2.out, HK1.out⟩
                      case measure => simp; omega
                    | false =>
                      go_wp2
                      go_roundw
                      case rel => exact ⟨k + 1, false, by omega, by omega, by go_num, rfl, HN2.out, HK1.out⟩
                      case measure => simp; omega
                  · have HNE : Hid (Ey T U l i k) := Lib.hid (Classical.not_not.1 fun h => hok (HLE.out.2 (HEY.out.1 h)))
                    have HN2 : Hid (Bq false (PB T U l i (k + 1))) := Lib.hid ⟨fun h => (by cases h), fun h => absurd HNE.out (HST.out.1 h).2⟩
                    cases kq with
                    | true =>
                      go_wp2
                      go_roundw
                      case rel => exact ⟨k + 1, false, by omega, by omega, by go_num, rfl, HN2.out, HK1.out⟩
                      case measure => simp; omega
                    | false =>
                      go_wp2
                      go_roundw
                      case rel => exact ⟨k + 1, false, by omega, by omega, by go_num, rfl, HN2.out, HK1.out⟩
                      case measure => simp; omega
                · have HBX := Lib.hid (boundE_out HLIM.out gT hlg)
                  rw [HBX.out.1, HBX.out.2]
                  clear hlg hd HBX HC
                  obtain ⟨b0', off', cap'', hv, hb0', hcell⟩ := ((HQ.out.same HK3.out).same HK1.out).pos (by have := HN.out; omega)
                  rw [← HN.out] at hv
                  injection hv with e1 e2 e3
                  injection e1 with e1
                  injection e1 with e1 e1' _
                  subst e1 e1'
                  clear e2 e3
                  have a0' := hcell i x HX.out
                  have a1' := hcell k y HY.out
                  have c0' := (HR3.out.same HK1.out).get (j := 0) rfl
                  have c1' := (HR3.out.same HK1.out).get (j := 1) rfl
                  have hbl' := (HR3.out.same HK1.out).lt
                  clear a0 a1 c0 c1 hcell
                  have hki : ((k : Int) - i) * T ≤ 100 * 68719476736 := by
                    have h1 : (k : Int) - i ≤ 100 := by omega
                    calc ((k : Int) - i) * T ≤ 100 * T := Int.mul_le_mul_of_nonneg_right h1 t1
                      _ ≤ 100 * 68719476736 := by omega
                  have hki0 : 0 ≤ ((k : Int) - i) * T := Int.mul_nonneg (by omega) t1
                  obtain ⟨pr, hpr⟩ : ∃ pr, ((k : Int) - i) * T = pr := ⟨_, rfl⟩
                  rw [hpr] at hki hki0 HEY
                  have hw0 : IntKind.i64.wrap ((k : Int) - (i : Int)) = (k : Int) - (i : Int) := IntWalk.i64_in _ (by omega)
                  have hw1 : IntKind.i64.wrap (((k : Int) - (i : Int)) * T) = pr := by rw [hpr]; exact IntWalk.i64_in _ (by omega)
                  have hw2 : IntKind.i64.wrap (y - x) = y - x := IntWalk.i64_in _ (by omega)
                  have hw3 : IntKind.i64.wrap (y - x + U) = y - x + U := IntWalk.i64_in _ (by omega)
                  clear hpr
                  by_cases hok : pr ≤ y - x + U
                  · have HN2 : Hid (Bq kq (PB T U l i (k + 1))) := Lib.hid ⟨fun h => HST.out.2 ⟨HKQ.out.1 h, HEY.out.2 hok⟩, fun h => HKQ.out.2 (HST.out.1 h).1⟩
                    cases kq with
                    | true =>
                      go_wp2
                      go_quiet (fail)
                      go_wp2
                      go_roundw
                      case rel => exact ⟨k + 1, true, by omega, by omega, by go_num, rfl, HN2.out, HK1.out.drewN _⟩
                      case measure => simp; omega
                    | false =>
                      go_wp2
                      go_quiet (fail)
                      go_wp2
                      go_roundw
                      case rel => exact ⟨k + 1, false, by omega, by omega, by go_num, rfl, HN2.out, HK1.out.drewN _⟩
                      case measure => simp; omega
                  · have HN2 : Hid (Bq false (PB T U l i (k + 1))) := Lib.hid ⟨fun h => (by cases h), fun h => absurd (HST.out.1 h).2 (fun q => hok (HEY.out.1 q))⟩
                    cases kq with
                    | true =>
                      go_wp2
                      go_quiet (fail)
                      go_wp2
                      go_roundw
                      case rel => exact ⟨k + 1, false, by omega, by omega, by go_num, (by first | rfl | rw [decide_eq_false (by omega)]), HN2.out, HK1.out.drewN _⟩
                      case measure => simp; omega
                    | false =>
                      go_wp2
                      go_quiet (fail)
                      go_wp2
                      go_roundw
                      case rel => exact ⟨k + 1, false, by omega, by omega, by go_num, (by first | rfl | rw [decide_eq_false (by omega)]), HN2.out, HK1.out.drewN _⟩
                      case measure => simp; omega
            · have HN2 : Hid (Bq kq (PB T U l (i + 1) (i + 1 + 1))) := Lib.hid (HKQ.out.trans (PB.next (by have := HN.out; omega)))
              go_wp2
              go_roundw
              case rel => exact ⟨i + 1, kq, by omega, by go_num, rfl, HN2.out, HKY.out⟩
              case measure => simp; omega
        · have HF : Hid (kp = kb) := Lib.hid (by
            have h1 : kp = true ↔ _ := Iff.trans HKP.out (PB.all (by have := HN.out; omega))
            exact Bool.eq_iff_iff.2 (h1.trans HIS.out.symm))
          obtain rfl := HF.out
          cases kp with
          | true =>
            have hle := HBD.out (HIS.out.1 rfl)
            go_wp2_with (go_at_call 14; refine works_t.mono ?_; rintro e w2 ⟨rfl, K2⟩)
            go_ret
            exact ⟨rfl, HK3.out.trans (HK.out.trans K2 (fun _ _ h => h)) (fun _ _ h => h)⟩
          | false =>
            go_wp2_with (go_at_call 14; refine works_t.mono ?_; rintro e w2 ⟨rfl, K2⟩)
            go_ret
            exact ⟨rfl, HK3.out.trans (HK.out.trans K2 (fun _ _ h => h)) (fun _ _ h => h)⟩
    · have HE : Hid (mostE l L = 2) := Lib.hid ((mostE_long hc).trans hlg)
      clear hgd hlg hc hz hlim hL
      go_enter Try.func4, Try.ntmps4
      go_upto_region 3 with (fail)
      generalize w.heap.size = rb at HROW ⊢
      generalize w.alloc (.cells #[.int .i64 T, .int .i64 U] 23) = w0 at HROW HK0 ⊢
      have c0 := HROW.out.get (j := 0) rfl
      have c1 := HROW.out.get (j := 1) rfl
      have hb := HROW.out.lt
      go_wp2_with (go_at_call 15; fail)
      refine (HC1.out _ HK0.out).mono ?_
      rintro e w1 ⟨ki, kj, kb, rfl, hr, K⟩
      have HREL := Lib.hid hr
      have HK1 := Lib.hid (HK0.out.trans K (fun _ _ h => h))
      have HR1 := Lib.hid (HROW.out.same K)
      clear hr K HK0 HROW c0 c1 hb HC1
      go_wp2_with (go_at_call 22; fail)
      refine (HM.out _ HK1.out).mono ?_
      rintro e w2 ⟨m, rfl, hm1, hm2, K⟩
      have HMX := Lib.hid hm1
      have HK2 := Lib.hid (HK1.out.trans K (fun _ _ h => h))
      have HR2 := Lib.hid (HR1.out.same K)
      clear hm1 K HK1 HR1 HM
      have c0 := HR2.out.get (j := 0) rfl
      have c1 := HR2.out.get (j := 1) rfl
      have hb := HR2.out.lt
      go_wp2_with (go_at_call 19; fail)
      refine (bound_c T U L _).mono ?_
      rintro e w3 ⟨rfl, K⟩
      have HK3 := Lib.hid (HK2.out.trans K (fun _ _ h => h))
      have HR3 := Lib.hid (HR2.out.same K)
      clear K HK2 HR2 c0 c1 hb
      rw [HZ.out, HE.out]
      go_wp2_with (go_at_call 14; refine works_t.mono ?_; rintro e w4 ⟨rfl, K2⟩)
      go_ret
      exact ⟨rfl, HK3.out.trans K2 (fun _ _ h => h)⟩
  · obtain ⟨r, hr⟩ : ∃ r, bothE T U l = r := ⟨_, rfl⟩
    have HR := Lib.hid hr
    rw [hr] at hz
    have hb1 : (r == 0) = false := by simpa using hz
    have hb2 : (r != 0) = true := by simpa using hz
    clear hr
    go_enter Try.func4, Try.ntmps4
    go_upto_region 3 with (fail)
    generalize w.heap.size = rb at HROW ⊢
    generalize w.alloc (.cells #[.int .i64 T, .int .i64 U] 23) = w0 at HROW HK0 ⊢
    have c0 := HROW.out.get (j := 0) rfl
    have c1 := HROW.out.get (j := 1) rfl
    have hb := HROW.out.lt
    go_wp2_with (go_at_call 15; fail)
    refine (HC1.out _ HK0.out).mono ?_
    rintro e w1 ⟨ki, kj, kb, rfl, hr, K⟩
    have HREL := Lib.hid hr
    have HK1 := Lib.hid (HK0.out.trans K (fun _ _ h => h))
    have HR1 := Lib.hid (HROW.out.same K)
    clear hr K HK0 HROW c0 c1 hb HC1
    go_wp2_with (go_at_call 22; fail)
    refine (HM.out _ HK1.out).mono ?_
    rintro e w2 ⟨m, rfl, hm1, hm2, K⟩
    have HMX := Lib.hid hm1
    have HK2 := Lib.hid (HK1.out.trans K (fun _ _ h => h))
    have HR2 := Lib.hid (HR1.out.same K)
    clear hm1 K HK1 HR1 HM
    have c0 := HR2.out.get (j := 0) rfl
    have c1 := HR2.out.get (j := 1) rfl
    have hb := HR2.out.lt
    go_wp2_with (go_at_call 19; fail)
    refine (bound_c T U L _).mono ?_
    rintro e w3 ⟨rfl, K⟩
    have HK3 := Lib.hid (HK2.out.trans K (fun _ _ h => h))
    have HR3 := Lib.hid (HR2.out.same K)
    clear K HK2 HR2 c0 c1 hb
    rw [HR.out]
    go_wp2_with (go_at_call 14; refine works_t.mono ?_; rintro e w4 ⟨rfl, K2⟩)
    go_ret
    exact ⟨rfl, HK3.out.trans K2 (fun _ _ h => h)⟩
end Go.Proofs.Ytelgknecainlfaa

/- TrLauW: texts for the statements of this seat: contracts of functions, walks, plain laws. Conditions: none. -/
import Derived.Test.YtfhlllmicobafaaTrCtx
set_option linter.all false
/- The walk of TraceLaunches. -/
namespace Go.Proofs.Ytfhlllmicobafaa
open Go.RowKit
open Tr (Ev ofB)
set_option maxRecDepth 100000 in
set_option maxHeartbeats 8000000 in
theorem launches_w {w : World} {v : Value} {l : List Int} (h : IntsK .u32 w v l) (hs : ∃ p c, v = .slice p l.length c ∧ l.length ≤ c) (hl : l.length ≤ maxLen) (hu : Tr.U32 l) :
    Calls Try.prog 8 #[v] w (Tru w) := by
  have HM := Lib.hid (made_o h hs hl hu)
  obtain ⟨hok, hlen, hsm⟩ := Tr.made_ok hu
  generalize Tr.made l = t at HM hok hlen hsm
  have HOK := Lib.hid (hok.wide (b := 64) (by omega))
  have HOK5 := Lib.hid hok
  have HSM := Lib.hid hsm
  have HW : Hid (EvW t) := Lib.hid (small_w hsm)
  obtain ⟨y0, hy0⟩ : ∃ y : Int, y = Tr.cntK 0 t := ⟨_, rfl⟩
  obtain ⟨y1, hy1⟩ : ∃ y : Int, y = Tr.cntK 1 t := ⟨_, rfl⟩
  obtain ⟨y2, hy2⟩ : ∃ y : Int, y = Tr.cntK 2 t := ⟨_, rfl⟩
  obtain ⟨y3, hy3⟩ : ∃ y : Int, y = Tr.cntK 3 t := ⟨_, rfl⟩
  obtain ⟨y4, hy4⟩ : ∃ y : Int, y = Tr.cntK 4 t := ⟨_, rfl⟩
  obtain ⟨y5, hy5⟩ : ∃ y : Int, y = Tr.cntK 5 t := ⟨_, rfl⟩
  obtain ⟨y6, hy6⟩ : ∃ y : Int, y = Tr.cntK 6 t := ⟨_, rfl⟩
  obtain ⟨y7, hy7⟩ : ∃ y : Int, y = Tr.cntK 7 t := ⟨_, rfl⟩
  obtain ⟨y8, hy8⟩ : ∃ y : Int, y = Tr.cntK 8 t := ⟨_, rfl⟩
  have HY : Hid (tally t = [y0, y1, y2, y3, y4, y5, y6, y7, y8]) := Lib.hid (by rw [tally_nine, hy0, hy1, hy2, hy3, hy4, hy5, hy6, hy7, hy8])
  obtain ⟨na, hna⟩ : ∃ na, (Tr.launL (-1) t).length = na := ⟨_, rfl⟩
  have e1 : y1 = (na : Int) := by rw [hy1, Tr.cntK_launches, hna]
  have HNA := Lib.hid hna
  have hnal : na ≤ 200 := by have := Tr.launL_len (-1) t; omega
  have HSUM : Hid (Tr.sumL t 5 = na) := Lib.hid (by rw [Tr.sumL_all t hsm, hna])
  have HLATE : Hid (Tr.lateL t 5 = Tr.delay (-1) t) := Lib.hid (Tr.lateL_all t hsm)
  obtain ⟨N, hN⟩ : ∃ N : Nat, t.length = N := ⟨_, rfl⟩
  have HN := Lib.hid hN
  rw [hN] at hlen
  clear h hs hl hu hok hsm hy0 hy1 hy2 hy3 hy4 hy5 hy6 hy7 hy8 hna hN
  subst e1
  go_enter Try.func8, Try.ntmps8
  go_wp2_with (go_at_call 29; fail)
  refine HM.out.mono ?_
  rintro e w1 ⟨vt, rfl, ht⟩
  have HT1 := Lib.hid (ht.rows evC_len)
  have HK1 := Lib.hid ht.2.2
  clear ht HM l
  go_wp2_with (go_at_call 30; fail)
  refine (tally_made HT1.out HOK.out HW.out (by rw [HN.out]; omega) HY.out).mono ?_
  rintro e w2 ⟨rfl, K2⟩
  have HK2 := Lib.hid (HK1.out.trans K2 (fun _ _ h => h))
  have HT2 := Lib.hid (HT1.out.same K2)
  clear K2 HT1 HK1
  have r2 := RowAt.new w2 49 #[.int .i64 y0, .int .i64 (na : Int), .int .i64 y2, .int .i64 y3, .int .i64 y4, .int .i64 y5, .int .i64 y6, .int .i64 y7, .int .i64 y8]
  have k2 : Kept (fun _ => False) w2 (w2.alloc (.cells #[.int .i64 y0, .int .i64 (na : Int), .int .i64 y2, .int .i64 y3, .int .i64 y4, .int .i64 y5, .int .i64 y6, .int .i64 y7, .int .i64 y8] 49)) := (Kept.refl _ _).alloc _
  have HR2 := Lib.hid r2
  have HK2B := Lib.hid (HK2.out.trans k2 (fun _ _ h => h))
  have HT2B := Lib.hid (HT2.out.same k2)
  clear r2 k2 HK2 HT2
  go_wp2_with (go_at_call 24; fail)
  refine (laun_made HT2B.out HOK.out HW.out (by rw [HN.out]; omega) (by omega)).mono ?_
  rintro e w3 ⟨va, rfl, ha⟩
  obtain ⟨pa, ca, hva⟩ := iro_slice ha
  rw [HNA.out] at hva
  subst hva
  have HA3 := Lib.hid ha.ints
  have r3 := HR2.out.same ha.2.2
  have HT3 := Lib.hid (HT2B.out.same ha.2.2)
  have HK3 := Lib.hid (HK2B.out.trans ha.2.2 (fun _ _ h => h))
  have c1 := r3.get (j := 1) rfl
  have cl := r3.lt
  clear ha r3 HR2 HT2B HK2B
  go_wp2_with (go_at_call 34; fail)
  refine (sorted34_c HA3.out (Tr.launL_sorted HOK.out _) (by rw [HNA.out]; omega)).mono ?_
  rintro e w4 ⟨rfl, K4⟩
  have HT4 := Lib.hid (HT3.out.same K4)
  have HK4 := Lib.hid (HK3.out.trans K4 (fun _ _ h => h))
  clear K4 HT3 HK3 c1 cl HA3
  obtain ⟨at_, ct, hvt⟩ := HT4.out.len
  rw [HN.out] at hvt
  subst hvt
  go_wp2
  go_loopw [8, 9, 55] (fun s lt k wr => ∃ j : Nat, j ≤ 5 ∧ k = .int .i64 j ∧ s = .int .i64 (Tr.sumL t j : Nat) ∧ lt = .int .i64 (Tr.lateL t j) ∧ Kept (fun _ => False) w4 wr) (fun _ _ k _ => match k with | .int _ x => (5 - x).toNat | _ => 0)
  case atStart => exact ⟨0, by omega, rfl, rfl, rfl, Kept.refl _ _⟩
  case round =>
    obtain ⟨j, hj, rfl, rfl, rfl, K⟩ := hrel
    have HK := Lib.hid K
    have HTR := Lib.hid (HT4.out.same K)
    clear K
    obtain ⟨S, hS⟩ : ∃ S, Tr.sumL t j = S := ⟨_, rfl⟩
    obtain ⟨L, hL⟩ : ∃ L, Tr.lateL t j = L := ⟨_, rfl⟩
    have hSb : S ≤ 1000 := by have := Tr.sumL_le (l := t) j; rw [HN.out] at this; have : j * N ≤ 5 * 200 := Nat.mul_le_mul hj hlen; omega
    have hLb : 0 ≤ L ∧ L ≤ 1600 := by have := Tr.lateL_bd HSM.out j; omega
    have HS := Lib.hid hS
    have HL := Lib.hid hL
    rw [hS, hL]
    clear hS hL
    by_cases hlt : j < 5
    · have HC := Lib.hid (laun_made HTR.out HOK.out HW.out (by rw [HN.out]; omega) (k := (j : Int)) (by omega))
      go_wp2_with (go_at_call 24; fail)
      refine HC.out.mono ?_
      rintro e w5 ⟨vo, rfl, ho⟩
      obtain ⟨po, co, hvo⟩ := iro_slice ho
      obtain ⟨no, hno⟩ : ∃ no, (Tr.launL (j : Int) t).length = no := ⟨_, rfl⟩
      have hnol : no ≤ 200 := by have := Tr.launL_len (j : Int) t; rw [HN.out] at this; omega
      have HNO := Lib.hid hno
      rw [hno] at hvo
      subst hvo
      have HO5 := Lib.hid ho.ints
      have HK5 := Lib.hid (HK.out.trans ho.2.2 (fun _ _ h => h))
      have HT5 := Lib.hid (HTR.out.same ho.2.2)
      clear ho HC HTR HK hno
      have HD := Lib.hid (delay_made HT5.out HOK.out HW.out (by rw [HN.out]; omega) (k := (j : Int)) (by omega))
      obtain ⟨d, hd⟩ : ∃ d, Tr.delay (j : Int) t = d := ⟨_, rfl⟩
      have hdb : 0 ≤ d ∧ d ≤ 1600 := by rw [← hd]; exact Tr.delay_bd' HSM.out _
      have HDD := Lib.hid hd
      rw [hd] at HD
      clear hd
      go_wp2_with (go_at_call 26; fail)
      refine HD.out.mono ?_
      rintro e w6 ⟨rfl, K6⟩
      have HK6 := Lib.hid (HK5.out.trans K6 (fun _ _ h => h))
      have HO6 := Lib.hid (HO5.out.same K6)
      have HT6 := Lib.hid (HT5.out.same K6)
      clear K6 HK5 HO5 HT5 HD
      go_wp2_with (go_at_call 34; fail)
      refine (sorted34_c HO6.out (Tr.launL_sorted HOK.out _) (by rw [HNO.out]; omega)).mono ?_
      rintro e w7 ⟨rfl, K7⟩
      have HK7 := Lib.hid (HK6.out.trans K7 (fun _ _ h => h))
      have HO7 := Lib.hid (HO6.out.same K7)
      have HT7 := Lib.hid (HT6.out.same K7)
      clear K7 HK6 HO6 HT6
      go_wp2
      go_loopw [15, 16, 83] (fun wa i q wr => ∃ m : Nat, m ≤ N ∧ q = .int .i64 m ∧ wa = .int .i64 (Tr.delay (j : Int) (t.take m)) ∧ i = .int .i64 ((Tr.launL (j : Int) (t.take m)).length : Nat) ∧ Kept (fun _ => False) w7 wr) (fun _ _ q _ => match q with | .int _ x => (N - x).toNat | _ => 0)
      case atStart => exact ⟨0, by omega, rfl, rfl, rfl, Kept.refl _ _⟩
      case round =>
        obtain ⟨m, hm, rfl, rfl, rfl, K⟩ := hrel
        have HK := Lib.hid K
        clear K
        by_cases hlm : m < N
        · have hml : m < t.length := by have := HN.out; omega
          have HX := Lib.hid (get_of hml)
          have hsx := HSM.out _ (List.getElem_mem hml)
          unfold Tr.Small at hsx
          obtain ⟨b0, off, cap', hv, hcp, hb0, hrows⟩ := (HT7.out.same HK.out).pos (by have := HN.out; omega)
          rw [HN.out] at hv
          injection hv with e1 e2 e3
          subst e1 e3
          have hx8 := hrows.ev HX.out
          generalize t[m] = x at HX hx8 hsx
          obtain ⟨a0, a1, a2, a3, a4, a5, a6, a7⟩ := hx8
          obtain ⟨wa, hwa⟩ : ∃ wa, Tr.delay (j : Int) (t.take m) = wa := ⟨_, rfl⟩
          obtain ⟨i, hi⟩ : ∃ i, (Tr.launL (j : Int) (t.take m)).length = i := ⟨_, rfl⟩
          have hwb : 0 ≤ wa ∧ wa ≤ 1600 := by rw [← hwa]; exact Tr.delay_bd HSM.out _ _
          have hil : i ≤ no := by rw [← hi, ← HNO.out]; exact Tr.launL_take_le _ _ _
          have HWA := Lib.hid hwa
          have HI := Lib.hid hi
          rw [hwa, hi]
          have HKB : Hid (∀ o, Kept (fun _ => False) w7 (wr.alloc (.cells o 35))) := Lib.hid fun o => HK.out.alloc _
          have ka : (0 : Int) ≤ (m : Int) := by omega
          have kb : (m : Int) < (N : Int) := by omega
          clear hwa hi hrows e2
          by_cases k1 : x.kind = 1
          · have b1 : (x.kind != 1) = false := by simpa using k1
            by_cases k2 : x.job = (j : Int)
            · have b2 : (x.job != (j : Int)) = false := by simpa using k2
              have hof : ofB (j : Int) x = true := by rw [Tr.ofB_job (by omega)]; simpa using k2
              have HL1 : Hid ((Tr.launL (j : Int) (t.take (m + 1))).length = i + 1) := Lib.hid (by rw [Tr.launL_take _ HX.out, if_pos ⟨k1, hof⟩, List.length_append, HI.out]; rfl)
              have hat := Tr.launL_at (j : Int) HX.out ⟨k1, hof⟩
              rw [HI.out] at hat
              have hi2 : i < no := by have := (List.getElem?_eq_some_iff.1 hat).1; rw [HNO.out] at this; exact this
              have hi3 : (0 : Int) ≤ (i : Int) := by omega
              have hi4 : (i : Int) < (no : Int) := by omega
              have hi5 : decide (no ≤ i) = false := decide_eq_false (by omega)
              obtain ⟨bo, oo, hpo, oc⟩ : ∃ bo oo, po = some ⟨bo, oo, none⟩ ∧ (wr.alloc (.cells #[.int .i64 x.kind, .int .i64 x.t, .int .i64 x.job, .int .i64 x.due, .int .i64 x.att, .int .i64 x.run, .int .i64 x.why, .int .i64 x.whn] 35)).cell? ⟨bo, oo + i, none⟩ = some (.int .i64 x.t) := by
                obtain ⟨b, o2, c2, q1, q2, q3⟩ := (HO7.out.same (HKB.out #[.int .i64 x.kind, .int .i64 x.t, .int .i64 x.job, .int .i64 x.due, .int .i64 x.att, .int .i64 x.run, .int .i64 x.why, .int .i64 x.whn])).pos (by rw [HNO.out]; omega)
                injection q1 with q1 _ _
                exact ⟨b, o2, q1, q3 i _ hat⟩
              subst hpo
              have rb := RowAt.new wr 35 #[.int .i64 x.kind, .int .i64 x.t, .int .i64 x.job, .int .i64 x.due, .int .i64 x.att, .int .i64 x.run, .int .i64 x.why, .int .i64 x.whn]
              have z1 := rb.get (j := 1) rfl
              have z3 := rb.get (j := 3) rfl
              have z4 := rb.get (j := 4) rfl
              have zl := rb.lt
              have ws : wrap64 (x.t - x.due) = x.t - x.due := IntWalk.wrap64_in _ (by omega)
              have wi : wrap64 ((i : Int) + 1) = (i : Int) + 1 := IntWalk.wrap64_in _ (by omega)
              clear rb hat
              by_cases k3 : x.att = 1
              · have b3 : (x.att == 1) = true := by simpa using k3
                have HD1 : Hid (Tr.delay (j : Int) (t.take (m + 1)) = max wa (x.t - x.due)) := Lib.hid (by rw [Tr.delay_take _ HX.out, Tr.dstep_job (by omega), if_pos ⟨k1, k2, k3⟩, HWA.out])
                clear k1 k2 k3 hof
                go_wp2
                go_quiet (fail)
                have HKW := Lib.hid ((HKB.out #[.int .i64 x.kind, .int .i64 x.t, .int .i64 x.job, .int .i64 x.due, .int .i64 x.att, .int .i64 x.run, .int .i64 x.why, .int .i64 x.whn]).drewN nq)
                have q1 : ((wr.alloc (.cells #[.int .i64 x.kind, .int .i64 x.t, .int .i64 x.job, .int .i64 x.due, .int .i64 x.att, .int .i64 x.run, .int .i64 x.why, .int .i64 x.whn] 35)).drewN nq).cell? ⟨wr.heap.size, 1, none⟩ = some (.int .i64 x.t) := z1
                have q3 : ((wr.alloc (.cells #[.int .i64 x.kind, .int .i64 x.t, .int .i64 x.job, .int .i64 x.due, .int .i64 x.att, .int .i64 x.run, .int .i64 x.why, .int .i64 x.whn] 35)).drewN nq).cell? ⟨wr.heap.size, 3, none⟩ = some (.int .i64 x.due) := z3
                have q4 : ((wr.alloc (.cells #[.int .i64 x.kind, .int .i64 x.t, .int .i64 x.job, .int .i64 x.due, .int .i64 x.att, .int .i64 x.run, .int .i64 x.why, .int .i64 x.whn] 35)).drewN nq).cell? ⟨wr.heap.size, 4, none⟩ = some (.int .i64 x.att) := z4
                have ql : wr.heap.size < ((wr.alloc (.cells #[.int .i64 x.kind, .int .i64 x.t, .int .i64 x.job, .int .i64 x.due, .int .i64 x.att, .int .i64 x.run, .int .i64 x.why, .int .i64 x.whn] 35)).drewN nq).heap.size := zl
                clear z1 z3 z4 zl oc
                generalize (wr.alloc (.cells #[.int .i64 x.kind, .int .i64 x.t, .int .i64 x.job, .int .i64 x.due, .int .i64 x.att, .int .i64 x.run, .int .i64 x.why, .int .i64 x.whn] 35)).drewN nq = W at HKW q1 q3 q4 ql ⊢
                generalize wr.heap.size = B at q1 q3 q4 ql ⊢
                go_wp2
                go_roundw
                case rel => exact ⟨m + 1, by omega, by go_num, by rw [HD1.out], by rw [HL1.out, wi]; push_cast; rfl, HKW.out⟩
                case measure => simp; omega
              · have b3 : (x.att == 1) = false := by simpa using k3
                have HD1 : Hid (Tr.delay (j : Int) (t.take (m + 1)) = wa) := Lib.hid (by rw [Tr.delay_take _ HX.out, Tr.dstep_job (by omega), if_neg (by omega), HWA.out])
                clear k1 k2 k3 hof
                go_wp2
                go_quiet (fail)
                have HKW := Lib.hid ((HKB.out #[.int .i64 x.kind, .int .i64 x.t, .int .i64 x.job, .int .i64 x.due, .int .i64 x.att, .int .i64 x.run, .int .i64 x.why, .int .i64 x.whn]).drewN nq)
                have q1 : ((wr.alloc (.cells #[.int .i64 x.kind, .int .i64 x.t, .int .i64 x.job, .int .i64 x.due, .int .i64 x.att, .int .i64 x.run, .int .i64 x.why, .int .i64 x.whn] 35)).drewN nq).cell? ⟨wr.heap.size, 1, none⟩ = some (.int .i64 x.t) := z1
                have q3 : ((wr.alloc (.cells #[.int .i64 x.kind, .int .i64 x.t, .int .i64 x.job, .int .i64 x.due, .int .i64 x.att, .int .i64 x.run, .int .i64 x.why, .int .i64 x.whn] 35)).drewN nq).cell? ⟨wr.heap.size, 3, none⟩ = some (.int .i64 x.due) := z3
                have q4 : ((wr.alloc (.cells #[.int .i64 x.kind, .int .i64 x.t, .int .i64 x.job, .int .i64 x.due, .int .i64 x.att, .int .i64 x.run, .int .i64 x.why, .int .i64 x.whn] 35)).drewN nq).cell? ⟨wr.heap.size, 4, none⟩ = some (.int .i64 x.att) := z4
                have ql : wr.heap.size < ((wr.alloc (.cells #[.int .i64 x.kind, .int .i64 x.t, .int .i64 x.job, .int .i64 x.due, .int .i64 x.att, .int .i64 x.run, .int .i64 x.why, .int .i64 x.whn] 35)).drewN nq).heap.size := zl
                clear z1 z3 z4 zl oc
                generalize (wr.alloc (.cells #[.int .i64 x.kind, .int .i64 x.t, .int .i64 x.job, .int .i64 x.due, .int .i64 x.att, .int .i64 x.run, .int .i64 x.why, .int .i64 x.whn] 35)).drewN nq = W at HKW q1 q3 q4 ql ⊢
                generalize wr.heap.size = B at q1 q3 q4 ql ⊢
                go_wp2
                go_roundw
                case rel => exact ⟨m + 1, by omega, by go_num, by rw [HD1.out], by rw [HL1.out, wi]; push_cast; rfl, HKW.out⟩
                case measure => simp; omega
            · have b2 : (x.job != (j : Int)) = true := by simpa using k2
              have hof : ¬ ofB (j : Int) x = true := by rw [Tr.ofB_job (by omega)]; simpa using k2
              have HL1 : Hid ((Tr.launL (j : Int) (t.take (m + 1))).length = i) := Lib.hid (by rw [Tr.launL_take _ HX.out, if_neg (fun q => hof q.2), HI.out])
              have HD1 : Hid (Tr.delay (j : Int) (t.take (m + 1)) = wa) := Lib.hid (by rw [Tr.delay_take _ HX.out, Tr.dstep_job (by omega), if_neg (by omega), HWA.out])
              clear k1 k2 hof
              go_wp2
              go_roundw
              case rel => exact ⟨m + 1, by omega, by go_num, by rw [HD1.out], by rw [HL1.out], HKB.out _⟩
              case measure => simp; omega
          · have b1 : (x.kind != 1) = true := by simpa using k1
            have HL1 : Hid ((Tr.launL (j : Int) (t.take (m + 1))).length = i) := Lib.hid (by rw [Tr.launL_take _ HX.out, if_neg (fun q => k1 q.1), HI.out])
            have HD1 : Hid (Tr.delay (j : Int) (t.take (m + 1)) = wa) := Lib.hid (by rw [Tr.delay_take _ HX.out, Tr.dstep_job (by omega), if_neg (by omega), HWA.out])
            clear k1
            go_wp2
            go_roundw
            case rel => exact ⟨m + 1, by omega, by go_num, by rw [HD1.out], by rw [HL1.out], HKB.out _⟩
            case measure => simp; omega
        · obtain rfl : m = N := by omega
          have hta : t.take m = t := List.take_of_length_le (by have := HN.out; omega)
          rw [hta, HDD.out, HNO.out]
          have HKE := Lib.hid (HK7.out.trans HK.out (fun _ _ h => h))
          clear hta HK HK7
          have ws : wrap64 ((S : Int) + (no : Int)) = (S : Int) + (no : Int) := IntWalk.wrap64_in _ (by omega)
          go_wp2
          go_roundw
          case rel => exact ⟨j + 1, by omega, by go_num, by rw [Tr.sumL, HS.out, HNO.out]; push_cast; rfl, by rw [Tr.lateL, HL.out, HDD.out], HKE.out⟩
          case measure => simp; omega
    · obtain rfl : j = 5 := by omega
      have hS5 : S = na := by rw [← HS.out, HSUM.out]
      subst hS5
      have hL5 := HLATE.out
      rw [HL.out] at hL5
      have HD := Lib.hid (delay_made HTR.out HOK.out HW.out (by rw [HN.out]; omega) (k := -1) (by omega))
      rw [← hL5] at HD
      clear hL5
      have HK4R := Lib.hid (HK4.out.trans HK.out (fun _ _ h => h))
      clear HK
      go_wp2_with (go_at_call 26; fail)
      refine HD.out.mono ?_
      rintro e w6 ⟨rfl, K6⟩
      have HK6 := Lib.hid (HK4R.out.trans K6 (fun _ _ h => h))
      have HT6 := Lib.hid (HTR.out.same K6)
      clear K6 HD HK4R HTR
      go_wp2_with (go_at_call 24; fail)
      refine (laun_range HT6.out HOK.out HW.out (by rw [HN.out]; omega) (by omega)).mono ?_
      rintro e w7 ⟨vz, rfl, K7⟩
      have HK7 := Lib.hid (HK6.out.trans K7 (fun _ _ h => h))
      have HT7 := Lib.hid (HT6.out.same K7)
      clear K7 HT6 HK6
      go_wp2_with (go_at_call 26; fail)
      refine (delay_range HT7.out HOK.out HW.out (by rw [HN.out]; omega) (by omega)).mono ?_
      rintro e w8 ⟨rfl, K8⟩
      have HK8 := Lib.hid (HK7.out.trans K8 (fun _ _ h => h))
      clear K8 HT7 HK7
      go_wp2_with (go_at_call 14; fail)
      refine (works_c _).mono ?_
      rintro e w9 ⟨rfl, K9⟩
      have HK9 := Lib.hid (HK8.out.trans K9 (fun _ _ h => h))
      clear K9
      go_wp2
      go_ret
      exact ⟨rfl, HK9.out⟩
end Go.Proofs.Ytfhlllmicobafaa

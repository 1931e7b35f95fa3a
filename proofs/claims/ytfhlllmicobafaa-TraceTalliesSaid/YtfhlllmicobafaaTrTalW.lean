/- TrTalW: texts for the statements of this seat: contracts of functions, walks, plain laws. Conditions: none. -/
import Derived.Deep.Cut
import Derived.Deep.CutRange
import Derived.Deep.DeepCutAuto
import Derived.Test.YtfhlllmicobafaaTrCtx
set_option linter.all false
/- The walk of TraceTallies. -/
namespace Go.Proofs.Ytfhlllmicobafaa
open Go.RowKit
open Tr (Ev)
theorem Try.size3 : ∀ h, (Try.prog.types[3]'h).size = 1 := fun _ => by kernel_rfl
theorem rows_ev {w : World} {g n c : Nat} {t : List Ev} (h : Evs w (.slice (some ⟨g, 0, none⟩) n c) t) (h0 : 0 < t.length) {j : Nat} {x : Ev} (hx : t[j]? = some x) : EvAt w g (j * 8) x := by
  obtain ⟨b, o2, c2, q, -, -, q2⟩ := h.pos h0
  injection q with q1
  injection q1 with q1
  injection q1 with q1 q3
  subst q1 q3
  have := q2.ev hx
  rwa [Nat.zero_add] at this
set_option maxRecDepth 100000 in
set_option maxHeartbeats 8000000 in
theorem tallies_w {w : World} {v : Value} {l : List Int} (h : IntsK .u32 w v l) (hs : ∃ p c, v = .slice p l.length c ∧ l.length ≤ c) (hl : l.length ≤ maxLen) (hu : Tr.U32 l) (near : Int) (hw0 : 0 ≤ near) (hw1 : near ≤ 65535) :
    Calls Try.prog 11 #[v, .int .u16 near] w (Tru w) := by
  have HM := Lib.hid (made_o h hs hl hu)
  obtain ⟨hok, hlen, hsm⟩ := Tr.made_ok hu
  generalize Tr.made l = t at HM hok hlen hsm
  have HOK := Lib.hid (hok.wide (b := 64) (by omega))
  have HW : Hid (EvW t) := Lib.hid (small_w hsm)
  have hkinds : ∀ x ∈ t, 1 ≤ x.kind ∧ x.kind ≤ 8 := fun x hx => by have := Tr.chk_ok (hok.each hx); omega
  have HKI := Lib.hid hkinds
  obtain ⟨hy0, hsum⟩ := Tr.cntK_sum t hkinds
  obtain ⟨y1, hy1'⟩ : ∃ y : Int, y = (Tr.cntK 1 t : Nat) := ⟨_, rfl⟩
  obtain ⟨y2, hy2'⟩ : ∃ y : Int, y = (Tr.cntK 2 t : Nat) := ⟨_, rfl⟩
  obtain ⟨y3, hy3'⟩ : ∃ y : Int, y = (Tr.cntK 3 t : Nat) := ⟨_, rfl⟩
  obtain ⟨y4, hy4'⟩ : ∃ y : Int, y = (Tr.cntK 4 t : Nat) := ⟨_, rfl⟩
  obtain ⟨y5, hy5'⟩ : ∃ y : Int, y = (Tr.cntK 5 t : Nat) := ⟨_, rfl⟩
  obtain ⟨y6, hy6'⟩ : ∃ y : Int, y = (Tr.cntK 6 t : Nat) := ⟨_, rfl⟩
  obtain ⟨y7, hy7'⟩ : ∃ y : Int, y = (Tr.cntK 7 t : Nat) := ⟨_, rfl⟩
  obtain ⟨y8, hy8'⟩ : ∃ y : Int, y = (Tr.cntK 8 t : Nat) := ⟨_, rfl⟩
  have HY : Hid (tally t = [0, y1, y2, y3, y4, y5, y6, y7, y8]) := Lib.hid (by rw [tally_nine, hy1', hy2', hy3', hy4', hy5', hy6', hy7', hy8', hy0]; rfl)
  have hs9 : y1 + y2 + y3 + y4 + y5 + y6 + y7 + y8 = (t.length : Int) := by omega
  have yp1 : 0 ≤ y1 := by omega
  have yp2 : 0 ≤ y2 := by omega
  have yp3 : 0 ≤ y3 := by omega
  have yp4 : 0 ≤ y4 := by omega
  have yp5 : 0 ≤ y5 := by omega
  have yp6 : 0 ≤ y6 := by omega
  have yp7 : 0 ≤ y7 := by omega
  have yp8 : 0 ≤ y8 := by omega
  have hup := Tr.upto (Tr.Ok.times t hok) (990 + near % 700)
  have HALL : Hid ((t.filter fun x => decide (x.t ≤ 253402300799)) = t) := Lib.hid (by rw [List.filter_eq_self]; intro x hx; have := hsm x hx; unfold Tr.Small at this; simp; omega)
  obtain ⟨P, hP⟩ : ∃ P, (t.filter fun x => decide (x.t ≤ 990 + near % 700)) = P := ⟨_, rfl⟩
  have HPE := Lib.hid hP
  have hPin : ∀ x ∈ P, x.t ≤ 990 + near % 700 := fun x hx => by rw [← hP] at hx; simpa using (List.mem_filter.1 hx).2
  rw [hP] at hup
  obtain ⟨m, hm⟩ : ∃ m, P.length = m := ⟨_, rfl⟩
  rw [hm] at hup
  obtain ⟨hPt, hmN, hnext⟩ := hup
  have HPIN := Lib.hid hPin
  have HPT := Lib.hid hPt
  have HMM := Lib.hid hm
  have HNEXT := Lib.hid hnext
  have HPW : Hid (EvW P) := Lib.hid (by rw [hPt]; exact fun x hx => HW.out x (List.mem_of_mem_take hx))
  have HPOK : Hid (Tr.Ok 64 P) := Lib.hid (by rw [hPt]; exact HOK.out.take m)
  obtain ⟨z0, hz0⟩ : ∃ y : Int, y = (Tr.cntK 0 P : Nat) := ⟨_, rfl⟩
  obtain ⟨z1, hz1⟩ : ∃ y : Int, y = (Tr.cntK 1 P : Nat) := ⟨_, rfl⟩
  obtain ⟨z2, hz2⟩ : ∃ y : Int, y = (Tr.cntK 2 P : Nat) := ⟨_, rfl⟩
  obtain ⟨z3, hz3⟩ : ∃ y : Int, y = (Tr.cntK 3 P : Nat) := ⟨_, rfl⟩
  obtain ⟨z4, hz4⟩ : ∃ y : Int, y = (Tr.cntK 4 P : Nat) := ⟨_, rfl⟩
  obtain ⟨z5, hz5⟩ : ∃ y : Int, y = (Tr.cntK 5 P : Nat) := ⟨_, rfl⟩
  obtain ⟨z6, hz6⟩ : ∃ y : Int, y = (Tr.cntK 6 P : Nat) := ⟨_, rfl⟩
  obtain ⟨z7, hz7⟩ : ∃ y : Int, y = (Tr.cntK 7 P : Nat) := ⟨_, rfl⟩
  obtain ⟨z8, hz8⟩ : ∃ y : Int, y = (Tr.cntK 8 P : Nat) := ⟨_, rfl⟩
  have HZ : Hid (tally P = [z0, z1, z2, z3, z4, z5, z6, z7, z8]) := Lib.hid (by rw [tally_nine, hz0, hz1, hz2, hz3, hz4, hz5, hz6, hz7, hz8])
  obtain ⟨N, hN⟩ : ∃ N : Nat, t.length = N := ⟨_, rfl⟩
  have HN := Lib.hid hN
  rw [hN] at hs9 hlen hmN
  clear h hs hl hu hok hsm hkinds hP hPin hPt hm hnext hN hy0 hsum hy1' hy2' hy3' hy4' hy5' hy6' hy7' hy8' hz0 hz1 hz2 hz3 hz4 hz5 hz6 hz7 hz8
  go_enter Try.func11, Try.ntmps11
  go_wp2_with (go_at_call 29; fail)
  refine HM.out.mono ?_
  rintro e w1 ⟨vt, rfl, ht⟩
  have HNZ := Lib.hid (ero_nz ht)
  have HT1 := Lib.hid (ht.rows evC_len)
  have HK1 := Lib.hid ht.2.2
  have hso := ero_some ht
  clear ht HM l
  rcases hso with ⟨rfl, htn⟩ | ⟨g, ct, hvt, hct, hg1, hg2⟩
  · have hN0 : N = 0 := by rw [← HN.out, htn]; rfl
    subst hN0
    have hm0 : m = 0 := by omega
    subst hm0
    go_wp2_with (go_at_call 30; fail)
    refine (tally_made HT1.out HOK.out HW.out (by rw [HN.out]; omega) HY.out).mono ?_
    rintro e w2 ⟨rfl, K2⟩
    have HK2 := Lib.hid (HK1.out.trans K2 (fun _ _ h => h))
    have HT2 := Lib.hid (HT1.out.same K2)
    clear K2 HT1 HK1
    have r2 := RowAt.new w2 49 #[.int .i64 0, .int .i64 y1, .int .i64 y2, .int .i64 y3, .int .i64 y4, .int .i64 y5, .int .i64 y6, .int .i64 y7, .int .i64 y8]
    have k2 : Kept (fun _ => False) w2 (w2.alloc (.cells #[.int .i64 0, .int .i64 y1, .int .i64 y2, .int .i64 y3, .int .i64 y4, .int .i64 y5, .int .i64 y6, .int .i64 y7, .int .i64 y8] 49)) := (Kept.refl _ _).alloc _
    have HR2 := Lib.hid r2
    have HK2B := Lib.hid (HK2.out.trans k2 (fun _ _ h => h))
    have HT2B := Lib.hid (HT2.out.same k2)
    clear r2 k2 HK2 HT2
    have HPF := Lib.hid (prefix_made HT2B.out HNZ.out HOK.out HW.out (by rw [HN.out]; omega) (now := 990 + near % 700) (by omega))
    rw [HPE.out] at HPF
    go_wp2_with (go_at_call 32; fail)
    refine HPF.out.mono ?_
    rintro e w3 ⟨vp, rfl, hp⟩
    obtain ⟨pq, cq, hvp⟩ := hp.val
    rw [HMM.out] at hvp
    subst hvp
    have HP3 := Lib.hid (hp.rows evC_len)
    have HR3 := Lib.hid (HR2.out.same hp.2.2)
    have HT3 := Lib.hid (HT2B.out.same hp.2.2)
    have HK3 := Lib.hid (HK2B.out.trans hp.2.2 (fun _ _ h => h))
    clear hp HPF HR2 HT2B HK2B
    generalize w2.heap.size = B6 at HR3 ⊢
    have HEQ := Lib.hid (equal23_c HP3.out (HT3.out.take (k := 0) (by exact Nat.zero_le _)) (by rw [HMM.out]; omega) (by rw [List.length_take, HN.out]; omega))
    rw [decide_eq_true HPT.out] at HEQ
    have b1 : decide (0 < 0) = false := decide_eq_false (by omega)
    have i1 : (0 : Int) ≤ (0 : Int) := by omega
    have i2 : (0 : Int) ≤ (0 : Int) := by omega
    go_wp2_with (go_at_call 23; fail)
    refine HEQ.out.mono ?_
    rintro e w4 ⟨rfl, K4⟩
    have HP4 := Lib.hid (HP3.out.same K4)
    have HR4 := Lib.hid (HR3.out.same K4)
    have HT4 := Lib.hid (HT3.out.same K4)
    have HK4 := Lib.hid (HK3.out.trans K4 (fun _ _ h => h))
    clear K4 HEQ HP3 HR3 HT3 HK3
    have c0 := HR4.out.get (j := 0) rfl
    have c1 := HR4.out.get (j := 1) rfl
    have c2 := HR4.out.get (j := 2) rfl
    have c3 := HR4.out.get (j := 3) rfl
    have c4 := HR4.out.get (j := 4) rfl
    have c5 := HR4.out.get (j := 5) rfl
    have c6 := HR4.out.get (j := 6) rfl
    have c7 := HR4.out.get (j := 7) rfl
    have c8 := HR4.out.get (j := 8) rfl
    have cl := HR4.out.lt
    go_upto_region 7 with fail
    go_cut [98] from 68 to 98 (fun s wx => s = .bool false ∧ wx = w4)
    case first =>
      go_wp2_with fail
      go_meet
      exact ⟨rfl, rfl⟩
    case rest =>
      obtain ⟨rfl, hw4⟩ := hcut
      have hw5 := hw4.symm
      clear hw4
      subst hw5
      have f0 : ∀ w, (Instr.index 49 (.agg #[.int .i64 0, .int .i64 y1, .int .i64 y2, .int .i64 y3, .int .i64 y4, .int .i64 y5, .int .i64 y6, .int .i64 y7, .int .i64 y8]) (.int .i64 0)).run Try.prog w = .ok (.int .i64 0) w := fun _ => by kernel_rfl
      have f1 : ∀ w, (Instr.index 49 (.agg #[.int .i64 0, .int .i64 y1, .int .i64 y2, .int .i64 y3, .int .i64 y4, .int .i64 y5, .int .i64 y6, .int .i64 y7, .int .i64 y8]) (.int .i64 1)).run Try.prog w = .ok (.int .i64 y1) w := fun _ => by kernel_rfl
      have f2 : ∀ w, (Instr.index 49 (.agg #[.int .i64 0, .int .i64 y1, .int .i64 y2, .int .i64 y3, .int .i64 y4, .int .i64 y5, .int .i64 y6, .int .i64 y7, .int .i64 y8]) (.int .i64 2)).run Try.prog w = .ok (.int .i64 y2) w := fun _ => by kernel_rfl
      have f3 : ∀ w, (Instr.index 49 (.agg #[.int .i64 0, .int .i64 y1, .int .i64 y2, .int .i64 y3, .int .i64 y4, .int .i64 y5, .int .i64 y6, .int .i64 y7, .int .i64 y8]) (.int .i64 3)).run Try.prog w = .ok (.int .i64 y3) w := fun _ => by kernel_rfl
      have f4 : ∀ w, (Instr.index 49 (.agg #[.int .i64 0, .int .i64 y1, .int .i64 y2, .int .i64 y3, .int .i64 y4, .int .i64 y5, .int .i64 y6, .int .i64 y7, .int .i64 y8]) (.int .i64 4)).run Try.prog w = .ok (.int .i64 y4) w := fun _ => by kernel_rfl
      have f5 : ∀ w, (Instr.index 49 (.agg #[.int .i64 0, .int .i64 y1, .int .i64 y2, .int .i64 y3, .int .i64 y4, .int .i64 y5, .int .i64 y6, .int .i64 y7, .int .i64 y8]) (.int .i64 5)).run Try.prog w = .ok (.int .i64 y5) w := fun _ => by kernel_rfl
      have f6 : ∀ w, (Instr.index 49 (.agg #[.int .i64 0, .int .i64 y1, .int .i64 y2, .int .i64 y3, .int .i64 y4, .int .i64 y5, .int .i64 y6, .int .i64 y7, .int .i64 y8]) (.int .i64 6)).run Try.prog w = .ok (.int .i64 y6) w := fun _ => by kernel_rfl
      have f7 : ∀ w, (Instr.index 49 (.agg #[.int .i64 0, .int .i64 y1, .int .i64 y2, .int .i64 y3, .int .i64 y4, .int .i64 y5, .int .i64 y6, .int .i64 y7, .int .i64 y8]) (.int .i64 7)).run Try.prog w = .ok (.int .i64 y7) w := fun _ => by kernel_rfl
      have f8 : ∀ w, (Instr.index 49 (.agg #[.int .i64 0, .int .i64 y1, .int .i64 y2, .int .i64 y3, .int .i64 y4, .int .i64 y5, .int .i64 y6, .int .i64 y7, .int .i64 y8]) (.int .i64 8)).run Try.prog w = .ok (.int .i64 y8) w := fun _ => by kernel_rfl
      go_wp2
      go_loopw [11, 100] (fun s q wr => wr = w4 ∧ ((q = .int .i64 0 ∧ s = .int .i64 (0)) ∨ (q = .int .i64 1 ∧ s = .int .i64 (0)) ∨ (q = .int .i64 2 ∧ s = .int .i64 (y1)) ∨ (q = .int .i64 3 ∧ s = .int .i64 (y1 + y2)) ∨ (q = .int .i64 4 ∧ s = .int .i64 (y1 + y2 + y3)) ∨ (q = .int .i64 5 ∧ s = .int .i64 (y1 + y2 + y3 + y4)) ∨ (q = .int .i64 6 ∧ s = .int .i64 (y1 + y2 + y3 + y4 + y5)) ∨ (q = .int .i64 7 ∧ s = .int .i64 (y1 + y2 + y3 + y4 + y5 + y6)) ∨ (q = .int .i64 8 ∧ s = .int .i64 (y1 + y2 + y3 + y4 + y5 + y6 + y7)) ∨ (q = .int .i64 9 ∧ s = .int .i64 (0)))) (fun _ q _ => match q with | .int _ x => (9 - x).toNat | _ => 0)
      case atStart => exact ⟨rfl, .inl ⟨rfl, rfl⟩⟩
      case round =>
        obtain ⟨hw4, hrel⟩ := hrel
        have hw5 := hw4.symm
        clear hw4
        subst hw5
        rcases hrel with ⟨rfl, rfl⟩ | ⟨rfl, rfl⟩ | ⟨rfl, rfl⟩ | ⟨rfl, rfl⟩ | ⟨rfl, rfl⟩ | ⟨rfl, rfl⟩ | ⟨rfl, rfl⟩ | ⟨rfl, rfl⟩ | ⟨rfl, rfl⟩ | ⟨rfl, rfl⟩
        ·
          go_wp2
          go_roundw
          case rel => first | (simp; done) | exact ⟨trivial, .inr (.inl ⟨rfl, rfl⟩)⟩
          case measure => simp
        ·
          go_wp2
          go_roundw
          case rel => first | (simp; done) | exact ⟨trivial, .inr (.inr (.inl ⟨rfl, rfl⟩))⟩
          case measure => simp
        ·
          have ws : wrap64 (y1 + y2) = y1 + y2 := IntWalk.wrap64_in _ (by omega)
          go_wp2
          go_roundw
          case rel => first | (simp; done) | exact ⟨trivial, .inr (.inr (.inr (.inl ⟨rfl, rfl⟩)))⟩
          case measure => simp
        ·
          have ws : wrap64 (y1 + y2 + y3) = y1 + y2 + y3 := IntWalk.wrap64_in _ (by omega)
          go_wp2
          go_roundw
          case rel => first | (simp; done) | exact ⟨trivial, .inr (.inr (.inr (.inr (.inl ⟨rfl, rfl⟩))))⟩
          case measure => simp
        ·
          have ws : wrap64 (y1 + y2 + y3 + y4) = y1 + y2 + y3 + y4 := IntWalk.wrap64_in _ (by omega)
          go_wp2
          go_roundw
          case rel => first | (simp; done) | exact ⟨trivial, .inr (.inr (.inr (.inr (.inr (.inl ⟨rfl, rfl⟩)))))⟩
          case measure => simp
        ·
          have ws : wrap64 (y1 + y2 + y3 + y4 + y5) = y1 + y2 + y3 + y4 + y5 := IntWalk.wrap64_in _ (by omega)
          go_wp2
          go_roundw
          case rel => first | (simp; done) | exact ⟨trivial, .inr (.inr (.inr (.inr (.inr (.inr (.inl ⟨rfl, rfl⟩))))))⟩
          case measure => simp
        ·
          have ws : wrap64 (y1 + y2 + y3 + y4 + y5 + y6) = y1 + y2 + y3 + y4 + y5 + y6 := IntWalk.wrap64_in _ (by omega)
          go_wp2
          go_roundw
          case rel => first | (simp; done) | exact ⟨trivial, .inr (.inr (.inr (.inr (.inr (.inr (.inr (.inl ⟨rfl, rfl⟩)))))))⟩
          case measure => simp
        ·
          have ws : wrap64 (y1 + y2 + y3 + y4 + y5 + y6 + y7) = y1 + y2 + y3 + y4 + y5 + y6 + y7 := IntWalk.wrap64_in _ (by omega)
          go_wp2
          go_roundw
          case rel => first | (simp; done) | exact ⟨trivial, .inr (.inr (.inr (.inr (.inr (.inr (.inr (.inr (.inl ⟨rfl, rfl⟩))))))))⟩
          case measure => simp
        ·
          have ws : wrap64 (y1 + y2 + y3 + y4 + y5 + y6 + y7 + y8) = y1 + y2 + y3 + y4 + y5 + y6 + y7 + y8 := IntWalk.wrap64_in _ (by omega)
          go_wp2
          go_roundw
          case rel => first | (simp; done) | exact ⟨trivial, .inr (.inr (.inr (.inr (.inr (.inr (.inr (.inr (.inr (⟨rfl, rfl⟩)))))))))⟩
          case measure => simp
        ·
          clear c0 c1 c2 c3 c4 c5 c6 c7 c8 cl f0 f1 f2 f3 f4 f5 f6 f7 f8
          go_wp2_with (go_at_call 30; fail)
          refine (tally_made HP4.out HPOK.out HPW.out (by rw [HMM.out]; omega) HZ.out).mono ?_
          rintro e w5 ⟨rfl, K5⟩
          have HR5 := Lib.hid (HR4.out.same K5)
          have HT5 := Lib.hid (HT4.out.same K5)
          have HK5 := Lib.hid (HK4.out.trans K5 (fun _ _ h => h))
          clear K5 HP4 HR4 HT4 HK4
          have hB6 := HR5.out.lt
          have hwB := HK5.out.size
          have kB : Kept (fun _ => False) w5 (w5.alloc (.cells #[.int .i64 z0, .int .i64 z1, .int .i64 z2, .int .i64 z3, .int .i64 z4, .int .i64 z5, .int .i64 z6, .int .i64 z7, .int .i64 z8] 49)) := (Kept.refl _ _).alloc _
          have HRB := Lib.hid (RowAt.new w5 49 #[.int .i64 z0, .int .i64 z1, .int .i64 z2, .int .i64 z3, .int .i64 z4, .int .i64 z5, .int .i64 z6, .int .i64 z7, .int .i64 z8])
          have HR6 := Lib.hid (HR5.out.same kB)
          have HT6 := Lib.hid (HT5.out.same kB)
          have HK6 := Lib.hid (HK5.out.trans kB (fun _ _ h => h))
          clear kB HR5 HT5 HK5
          go_upto_region 16 with fail
          generalize w5.alloc (.cells #[.int .i64 z0, .int .i64 z1, .int .i64 z2, .int .i64 z3, .int .i64 z4, .int .i64 z5, .int .i64 z6, .int .i64 z7, .int .i64 z8] 49) = wB at HRB HR6 HT6 HK6 ⊢
          generalize w5.heap.size = B14 at HRB hB6 hwB ⊢
          have HB6 := Lib.hid hB6
          have HWB := Lib.hid hwB
          clear hB6 hwB
          have HS0 : Hid (RowAt wB B14 (iv9 (tally (t.take (0 + 0))))) := Lib.hid (by
            have h := HRB.out
            rw [show t.take (0 + 0) = P by rw [HPT.out], HZ.out]
            exact h)
          have HFIN : Hid (∀ W, Kept (fun b => b = B14) wB W → Kept (fun _ => False) w W ∧ RowAt W B6 #[.int .i64 0, .int .i64 y1, .int .i64 y2, .int .i64 y3, .int .i64 y4, .int .i64 y5, .int .i64 y6, .int .i64 y7, .int .i64 y8].toList ∧ Evs W (.slice none 0 0) t) := Lib.hid fun W K => by
            refine ⟨HK6.out.trans K (fun b hb q => by have := HWB.out; omega), HR6.out.kept K (by have := HB6.out; omega), HT6.out.kept K (fun b hb h0 q => by cases hb)⟩
          clear HRB HK6 HR6 HT6
          go_wp2
          go_loopw [125] (fun q wr => q = .int .i64 0 ∧ wr = wB) (fun _ _ => 0)
          case atStart => exact ⟨rfl, rfl⟩
          case round =>
            obtain ⟨rfl, hwr⟩ := hrel
            have hwr2 := hwr.symm
            clear hwr
            subst hwr2
            have HK : Hid (Kept (fun b => b = B14) wB wB) := Lib.hid (Kept.refl _ _)
            have HRO := HS0
            have HT7 := Lib.hid (HFIN.out _ HK.out).2.2
            have HK7 := Lib.hid (HFIN.out _ HK.out).1
            have HA7 := Lib.hid (HFIN.out _ HK.out).2.1
            have HB7 : Hid (RowAt wB B14 #[.int .i64 0, .int .i64 y1, .int .i64 y2, .int .i64 y3, .int .i64 y4, .int .i64 y5, .int .i64 y6, .int .i64 y7, .int .i64 y8].toList) := Lib.hid (by
              have h := HRO.out
              rw [List.take_of_length_le (by have := HN.out; omega), HY.out] at h
              exact h)
            clear HRO HK HFIN HS0 HB6 HWB
            go_wp2_with (go_at_call 32; fail)
            refine (prefix_range HT7.out HNZ.out HOK.out HW.out (by rw [HN.out]; omega) (by omega)).mono ?_
            rintro e w7 ⟨u7, rfl, K7⟩
            have HT8 := Lib.hid (HT7.out.same K7)
            have HK8 := Lib.hid (HK7.out.trans K7 (fun _ _ h => h))
            have HA8 := Lib.hid (HA7.out.same K7)
            have HB8 := Lib.hid (HB7.out.same K7)
            clear K7 HT7 HK7 HA7 HB7
            go_wp2_with (go_at_call 32; fail)
            refine (prefix_range HT8.out HNZ.out HOK.out HW.out (by rw [HN.out]; omega) (by omega)).mono ?_
            rintro e w8 ⟨u8, rfl, K8⟩
            have HT9 := Lib.hid (HT8.out.same K8)
            have HK9 := Lib.hid (HK8.out.trans K8 (fun _ _ h => h))
            have HA9 := Lib.hid (HA8.out.same K8)
            have HB9 := Lib.hid (HB8.out.same K8)
            clear K8 HT8 HK8 HA8 HB8
            have HPF := Lib.hid (prefix_made HT9.out HNZ.out HOK.out HW.out (by rw [HN.out]; omega) (now := 253402300799) (by omega))
            rw [HALL.out] at HPF
            go_wp2_with (go_at_call 32; fail)
            refine HPF.out.mono ?_
            rintro e w9 ⟨ua, rfl, hua⟩
            obtain ⟨pu, cu, hvu⟩ := hua.val
            rw [HN.out] at hvu
            subst hvu
            have ra := HA9.out.same hua.2.2
            have rb := HB9.out.same hua.2.2
            have HK10 := Lib.hid (HK9.out.trans hua.2.2 (fun _ _ h => h))
            clear hua HPF HT9 HK9 HA9 HB9
            have a0 := ra.get (j := 0) rfl
            have a1 := ra.get (j := 1) rfl
            have a2 := ra.get (j := 2) rfl
            have a3 := ra.get (j := 3) rfl
            have a4 := ra.get (j := 4) rfl
            have a5 := ra.get (j := 5) rfl
            have a6 := ra.get (j := 6) rfl
            have a7 := ra.get (j := 7) rfl
            have a8 := ra.get (j := 8) rfl
            have al := ra.lt
            have b0 := rb.get (j := 0) rfl
            have b1 := rb.get (j := 1) rfl
            have b2 := rb.get (j := 2) rfl
            have b3 := rb.get (j := 3) rfl
            have b4 := rb.get (j := 4) rfl
            have b5 := rb.get (j := 5) rfl
            have b6 := rb.get (j := 6) rfl
            have b7 := rb.get (j := 7) rfl
            have b8 := rb.get (j := 8) rfl
            have bl := rb.lt
            have he4 := run_equalIn9 w9 [0, y1, y2, y3, y4, y5, y6, y7, y8] [0, y1, y2, y3, y4, y5, y6, y7, y8] rfl rfl
            simp only [iv9, List.map_cons, List.map_nil, decide_true] at he4
            clear ra rb
            go_wp2_with (go_at_call 14; fail)
            refine (works_c _).mono ?_
            rintro e w10 ⟨rfl, K10⟩
            have HK11 := Lib.hid (HK10.out.trans K10 (fun _ _ h => h))
            clear K10 a0 a1 a2 a3 a4 a5 a6 a7 a8 al b0 b1 b2 b3 b4 b5 b6 b7 b8 bl he4
            go_wp2
            go_ret
            exact ⟨rfl, HK11.out⟩
  · rw [HN.out] at hvt hct
    subst hvt
    go_wp2_with (go_at_call 30; fail)
    refine (tally_made HT1.out HOK.out HW.out (by rw [HN.out]; omega) HY.out).mono ?_
    rintro e w2 ⟨rfl, K2⟩
    have HK2 := Lib.hid (HK1.out.trans K2 (fun _ _ h => h))
    have HT2 := Lib.hid (HT1.out.same K2)
    clear K2 HT1 HK1
    have r2 := RowAt.new w2 49 #[.int .i64 0, .int .i64 y1, .int .i64 y2, .int .i64 y3, .int .i64 y4, .int .i64 y5, .int .i64 y6, .int .i64 y7, .int .i64 y8]
    have k2 : Kept (fun _ => False) w2 (w2.alloc (.cells #[.int .i64 0, .int .i64 y1, .int .i64 y2, .int .i64 y3, .int .i64 y4, .int .i64 y5, .int .i64 y6, .int .i64 y7, .int .i64 y8] 49)) := (Kept.refl _ _).alloc _
    have HR2 := Lib.hid r2
    have HK2B := Lib.hid (HK2.out.trans k2 (fun _ _ h => h))
    have HT2B := Lib.hid (HT2.out.same k2)
    clear r2 k2 HK2 HT2
    have HPF := Lib.hid (prefix_made HT2B.out HNZ.out HOK.out HW.out (by rw [HN.out]; omega) (now := 990 + near % 700) (by omega))
    rw [HPE.out] at HPF
    go_wp2_with (go_at_call 32; fail)
    refine HPF.out.mono ?_
    rintro e w3 ⟨vp, rfl, hp⟩
    obtain ⟨pq, cq, hvp⟩ := hp.val
    rw [HMM.out] at hvp
    subst hvp
    have HP3 := Lib.hid (hp.rows evC_len)
    have HR3 := Lib.hid (HR2.out.same hp.2.2)
    have HT3 := Lib.hid (HT2B.out.same hp.2.2)
    have HK3 := Lib.hid (HK2B.out.trans hp.2.2 (fun _ _ h => h))
    clear hp HPF HR2 HT2B HK2B
    generalize w2.heap.size = B6 at HR3 ⊢
    have HEQ := Lib.hid (equal23_c HP3.out (HT3.out.take (k := m) (by rw [HN.out]; exact hmN)) (by rw [HMM.out]; omega) (by rw [List.length_take, HN.out]; omega))
    rw [decide_eq_true HPT.out] at HEQ
    have b1 : decide (N < m) = false := decide_eq_false (by omega)
    have i1 : (0 : Int) ≤ (m : Int) := by omega
    have i2 : (m : Int) ≤ (ct : Int) := by omega
    go_wp2_with (go_at_call 23; fail)
    refine HEQ.out.mono ?_
    rintro e w4 ⟨rfl, K4⟩
    have HP4 := Lib.hid (HP3.out.same K4)
    have HR4 := Lib.hid (HR3.out.same K4)
    have HT4 := Lib.hid (HT3.out.same K4)
    have HK4 := Lib.hid (HK3.out.trans K4 (fun _ _ h => h))
    clear K4 HEQ HP3 HR3 HT3 HK3
    have c0 := HR4.out.get (j := 0) rfl
    have c1 := HR4.out.get (j := 1) rfl
    have c2 := HR4.out.get (j := 2) rfl
    have c3 := HR4.out.get (j := 3) rfl
    have c4 := HR4.out.get (j := 4) rfl
    have c5 := HR4.out.get (j := 5) rfl
    have c6 := HR4.out.get (j := 6) rfl
    have c7 := HR4.out.get (j := 7) rfl
    have c8 := HR4.out.get (j := 8) rfl
    have cl := HR4.out.lt
    go_upto_region 7 with fail
    go_cut [98] from 68 to 98 (fun s wx => s = .bool false ∧ wx = w4)
    case first =>
      by_cases hm0 : m = 0
      · subst hm0
        by_cases hmN0 : N = 0
        · have b2 : decide (0 < N) = false := decide_eq_false (by omega)
          go_wp2_with fail
          go_meet
          exact ⟨rfl, rfl⟩
        · have b2 : decide (0 < N) = true := decide_eq_true (by omega)
          obtain ⟨x, hx⟩ : ∃ x, t[0]? = some x := ⟨_, List.getElem?_eq_getElem (by rw [HN.out]; omega)⟩
          have hxn := HNEXT.out x hx
          have b3 : decide (x.t ≤ 990 + near % 700) = false := decide_eq_false (by omega)
          have x1 := (rows_ev HT4.out (by rw [HN.out]; omega) hx).c1
          have i3 : (0 : Int) < (N : Int) := by omega
          clear hxn
          go_wp2_with fail
          go_meet
          exact ⟨rfl, rfl⟩
      · obtain ⟨k, rfl⟩ : ∃ k, m = k + 1 := ⟨m - 1, by omega⟩
        obtain ⟨y, hy⟩ : ∃ y, P[k]? = some y := ⟨_, List.getElem?_eq_getElem (by rw [HMM.out]; omega)⟩
        have hyn := HPIN.out y (List.mem_of_getElem? hy)
        obtain ⟨gp, op, hpq, yc⟩ : ∃ gp op, pq = some ⟨gp, op, none⟩ ∧ w4.cell? ⟨gp, op + k * 8 + 1, none⟩ = some (.int .i64 y.t) := by
          obtain ⟨b, o2, c2, q, -, -, q2⟩ := HP4.out.pos (by rw [HMM.out]; omega)
          injection q with q1
          exact ⟨b, o2, q1, (q2.ev hy).c1⟩
        subst hpq
        have b0 : decide (990 + near % 700 < y.t) = false := decide_eq_false (by omega)
        have i3 : (0 : Int) ≤ (k : Int) := by omega
        have i4 : (k : Int) < (k : Int) + 1 := by omega
        have i5 : wrap64 ((k : Int) + 1 - 1) = (k : Int) := by rw [show (k : Int) + 1 - 1 = (k : Int) by omega]; exact IntWalk.wrap64_in _ (by omega)
        clear hyn
        by_cases hmN0 : N = k + 1
        · have b2 : decide (k + 1 < N) = false := decide_eq_false (by omega)
          go_wp2_with fail
          go_meet
          exact ⟨rfl, rfl⟩
        · have b2 : decide (k + 1 < N) = true := decide_eq_true (by omega)
          obtain ⟨x, hx⟩ : ∃ x, t[k + 1]? = some x := ⟨_, List.getElem?_eq_getElem (by rw [HN.out]; omega)⟩
          have hxn := HNEXT.out x hx
          have b3 : decide (x.t ≤ 990 + near % 700) = false := decide_eq_false (by omega)
          have x1 := (rows_ev HT4.out (by rw [HN.out]; omega) hx).c1
          have i6 : (k : Int) + 1 < (N : Int) := by omega
          have i7 : (0 : Int) ≤ (k : Int) + 1 := by omega
          clear hxn
          go_wp2_with fail
          go_meet
          exact ⟨rfl, rfl⟩
    case rest =>
      obtain ⟨rfl, hw4⟩ := hcut
      have hw5 := hw4.symm
      clear hw4
      subst hw5
      have f0 : ∀ w, (Instr.index 49 (.agg #[.int .i64 0, .int .i64 y1, .int .i64 y2, .int .i64 y3, .int .i64 y4, .int .i64 y5, .int .i64 y6, .int .i64 y7, .int .i64 y8]) (.int .i64 0)).run Try.prog w = .ok (.int .i64 0) w := fun _ => by kernel_rfl
      have f1 : ∀ w, (Instr.index 49 (.agg #[.int .i64 0, .int .i64 y1, .int .i64 y2, .int .i64 y3, .int .i64 y4, .int .i64 y5, .int .i64 y6, .int .i64 y7, .int .i64 y8]) (.int .i64 1)).run Try.prog w = .ok (.int .i64 y1) w := fun _ => by kernel_rfl
      have f2 : ∀ w, (Instr.index 49 (.agg #[.int .i64 0, .int .i64 y1, .int .i64 y2, .int .i64 y3, .int .i64 y4, .int .i64 y5, .int .i64 y6, .int .i64 y7, .int .i64 y8]) (.int .i64 2)).run Try.prog w = .ok (.int .i64 y2) w := fun _ => by kernel_rfl
      have f3 : ∀ w, (Instr.index 49 (.agg #[.int .i64 0, .int .i64 y1, .int .i64 y2, .int .i64 y3, .int .i64 y4, .int .i64 y5, .int .i64 y6, .int .i64 y7, .int .i64 y8]) (.int .i64 3)).run Try.prog w = .ok (.int .i64 y3) w := fun _ => by kernel_rfl
      have f4 : ∀ w, (Instr.index 49 (.agg #[.int .i64 0, .int .i64 y1, .int .i64 y2, .int .i64 y3, .int .i64 y4, .int .i64 y5, .int .i64 y6, .int .i64 y7, .int .i64 y8]) (.int .i64 4)).run Try.prog w = .ok (.int .i64 y4) w := fun _ => by kernel_rfl
      have f5 : ∀ w, (Instr.index 49 (.agg #[.int .i64 0, .int .i64 y1, .int .i64 y2, .int .i64 y3, .int .i64 y4, .int .i64 y5, .int .i64 y6, .int .i64 y7, .int .i64 y8]) (.int .i64 5)).run Try.prog w = .ok (.int .i64 y5) w := fun _ => by kernel_rfl
      have f6 : ∀ w, (Instr.index 49 (.agg #[.int .i64 0, .int .i64 y1, .int .i64 y2, .int .i64 y3, .int .i64 y4, .int .i64 y5, .int .i64 y6, .int .i64 y7, .int .i64 y8]) (.int .i64 6)).run Try.prog w = .ok (.int .i64 y6) w := fun _ => by kernel_rfl
      have f7 : ∀ w, (Instr.index 49 (.agg #[.int .i64 0, .int .i64 y1, .int .i64 y2, .int .i64 y3, .int .i64 y4, .int .i64 y5, .int .i64 y6, .int .i64 y7, .int .i64 y8]) (.int .i64 7)).run Try.prog w = .ok (.int .i64 y7) w := fun _ => by kernel_rfl
      have f8 : ∀ w, (Instr.index 49 (.agg #[.int .i64 0, .int .i64 y1, .int .i64 y2, .int .i64 y3, .int .i64 y4, .int .i64 y5, .int .i64 y6, .int .i64 y7, .int .i64 y8]) (.int .i64 8)).run Try.prog w = .ok (.int .i64 y8) w := fun _ => by kernel_rfl
      go_wp2
      go_loopw [11, 100] (fun s q wr => wr = w4 ∧ ((q = .int .i64 0 ∧ s = .int .i64 (0)) ∨ (q = .int .i64 1 ∧ s = .int .i64 (0)) ∨ (q = .int .i64 2 ∧ s = .int .i64 (y1)) ∨ (q = .int .i64 3 ∧ s = .int .i64 (y1 + y2)) ∨ (q = .int .i64 4 ∧ s = .int .i64 (y1 + y2 + y3)) ∨ (q = .int .i64 5 ∧ s = .int .i64 (y1 + y2 + y3 + y4)) ∨ (q = .int .i64 6 ∧ s = .int .i64 (y1 + y2 + y3 + y4 + y5)) ∨ (q = .int .i64 7 ∧ s = .int .i64 (y1 + y2 + y3 + y4 + y5 + y6)) ∨ (q = .int .i64 8 ∧ s = .int .i64 (y1 + y2 + y3 + y4 + y5 + y6 + y7)) ∨ (q = .int .i64 9 ∧ s = .int .i64 (N)))) (fun _ q _ => match q with | .int _ x => (9 - x).toNat | _ => 0)
      case atStart => exact ⟨rfl, .inl ⟨rfl, rfl⟩⟩
      case round =>
        obtain ⟨hw4, hrel⟩ := hrel
        have hw5 := hw4.symm
        clear hw4
        subst hw5
        rcases hrel with ⟨rfl, rfl⟩ | ⟨rfl, rfl⟩ | ⟨rfl, rfl⟩ | ⟨rfl, rfl⟩ | ⟨rfl, rfl⟩ | ⟨rfl, rfl⟩ | ⟨rfl, rfl⟩ | ⟨rfl, rfl⟩ | ⟨rfl, rfl⟩ | ⟨rfl, rfl⟩
        ·
          go_wp2
          go_roundw
          case rel => first | (simp; done) | exact ⟨trivial, .inr (.inl ⟨rfl, rfl⟩)⟩
          case measure => simp
        ·
          go_wp2
          go_roundw
          case rel => first | (simp; done) | exact ⟨trivial, .inr (.inr (.inl ⟨rfl, rfl⟩))⟩
          case measure => simp
        ·
          have ws : wrap64 (y1 + y2) = y1 + y2 := IntWalk.wrap64_in _ (by omega)
          go_wp2
          go_roundw
          case rel => first | (simp; done) | exact ⟨trivial, .inr (.inr (.inr (.inl ⟨rfl, rfl⟩)))⟩
          case measure => simp
        ·
          have ws : wrap64 (y1 + y2 + y3) = y1 + y2 + y3 := IntWalk.wrap64_in _ (by omega)
          go_wp2
          go_roundw
          case rel => first | (simp; done) | exact ⟨trivial, .inr (.inr (.inr (.inr (.inl ⟨rfl, rfl⟩))))⟩
          case measure => simp
        ·
          have ws : wrap64 (y1 + y2 + y3 + y4) = y1 + y2 + y3 + y4 := IntWalk.wrap64_in _ (by omega)
          go_wp2
          go_roundw
          case rel => first | (simp; done) | exact ⟨trivial, .inr (.inr (.inr (.inr (.inr (.inl ⟨rfl, rfl⟩)))))⟩
          case measure => simp
        ·
          have ws : wrap64 (y1 + y2 + y3 + y4 + y5) = y1 + y2 + y3 + y4 + y5 := IntWalk.wrap64_in _ (by omega)
          go_wp2
          go_roundw
          case rel => first | (simp; done) | exact ⟨trivial, .inr (.inr (.inr (.inr (.inr (.inr (.inl ⟨rfl, rfl⟩))))))⟩
          case measure => simp
        ·
          have ws : wrap64 (y1 + y2 + y3 + y4 + y5 + y6) = y1 + y2 + y3 + y4 + y5 + y6 := IntWalk.wrap64_in _ (by omega)
          go_wp2
          go_roundw
          case rel => first | (simp; done) | exact ⟨trivial, .inr (.inr (.inr (.inr (.inr (.inr (.inr (.inl ⟨rfl, rfl⟩)))))))⟩
          case measure => simp
        ·
          have ws : wrap64 (y1 + y2 + y3 + y4 + y5 + y6 + y7) = y1 + y2 + y3 + y4 + y5 + y6 + y7 := IntWalk.wrap64_in _ (by omega)
          go_wp2
          go_roundw
          case rel => first | (simp; done) | exact ⟨trivial, .inr (.inr (.inr (.inr (.inr (.inr (.inr (.inr (.inl ⟨rfl, rfl⟩))))))))⟩
          case measure => simp
        ·
          have ws : wrap64 (y1 + y2 + y3 + y4 + y5 + y6 + y7 + y8) = y1 + y2 + y3 + y4 + y5 + y6 + y7 + y8 := IntWalk.wrap64_in _ (by omega)
          go_wp2
          go_roundw
          case rel => first | (simp; done) | exact ⟨trivial, .inr (.inr (.inr (.inr (.inr (.inr (.inr (.inr (.inr (⟨rfl, rfl⟩)))))))))⟩
          case measure => simp
        ·
          clear c0 c1 c2 c3 c4 c5 c6 c7 c8 cl f0 f1 f2 f3 f4 f5 f6 f7 f8
          go_wp2_with (go_at_call 30; fail)
          refine (tally_made HP4.out HPOK.out HPW.out (by rw [HMM.out]; omega) HZ.out).mono ?_
          rintro e w5 ⟨rfl, K5⟩
          have HR5 := Lib.hid (HR4.out.same K5)
          have HT5 := Lib.hid (HT4.out.same K5)
          have HK5 := Lib.hid (HK4.out.trans K5 (fun _ _ h => h))
          clear K5 HP4 HR4 HT4 HK4
          have hgB : 0 < t.length → g < w5.heap.size := fun h => HT5.out.block rfl h
          have hB6 := HR5.out.lt
          have hwB := HK5.out.size
          have kB : Kept (fun _ => False) w5 (w5.alloc (.cells #[.int .i64 z0, .int .i64 z1, .int .i64 z2, .int .i64 z3, .int .i64 z4, .int .i64 z5, .int .i64 z6, .int .i64 z7, .int .i64 z8] 49)) := (Kept.refl _ _).alloc _
          have HRB := Lib.hid (RowAt.new w5 49 #[.int .i64 z0, .int .i64 z1, .int .i64 z2, .int .i64 z3, .int .i64 z4, .int .i64 z5, .int .i64 z6, .int .i64 z7, .int .i64 z8])
          have HR6 := Lib.hid (HR5.out.same kB)
          have HT6 := Lib.hid (HT5.out.same kB)
          have HK6 := Lib.hid (HK5.out.trans kB (fun _ _ h => h))
          clear kB HR5 HT5 HK5
          go_upto_region 16 with fail
          generalize w5.alloc (.cells #[.int .i64 z0, .int .i64 z1, .int .i64 z2, .int .i64 z3, .int .i64 z4, .int .i64 z5, .int .i64 z6, .int .i64 z7, .int .i64 z8] 49) = wB at HRB HR6 HT6 HK6 ⊢
          generalize w5.heap.size = B14 at HRB hgB hB6 hwB ⊢
          have HGB := Lib.hid hgB
          have HB6 := Lib.hid hB6
          have HWB := Lib.hid hwB
          clear hgB hB6 hwB
          have HS0 : Hid (RowAt wB B14 (iv9 (tally (t.take (m + 0))))) := Lib.hid (by
            have h := HRB.out
            rw [Nat.add_zero, ← HPT.out, HZ.out]
            exact h)
          have HFIN : Hid (∀ W, Kept (fun b => b = B14) wB W → Kept (fun _ => False) w W ∧ RowAt W B6 #[.int .i64 0, .int .i64 y1, .int .i64 y2, .int .i64 y3, .int .i64 y4, .int .i64 y5, .int .i64 y6, .int .i64 y7, .int .i64 y8].toList ∧ Evs W (.slice (some ⟨g, 0, none⟩) N ct) t) := Lib.hid fun W K => by
            refine ⟨HK6.out.trans K (fun b hb q => by have := HWB.out; omega), HR6.out.kept K (by have := HB6.out; omega), HT6.out.kept K (fun b hb h0 q => ?_)⟩
            have h1 := HGB.out h0
            simp only [Value.ownBlock, Option.some.injEq] at hb
            omega
          clear HRB HK6 HR6 HT6
          by_cases hmc : m < ct
          · have hmc2 : (m : Int) < (ct : Int) := by omega
            go_wp2
            go_loopw [125] (fun q wr => ∃ j : Nat, j ≤ N - m ∧ q = .int .i64 j ∧ Kept (fun b => b = B14) wB wr ∧ RowAt wr B14 (iv9 (tally (t.take (m + j))))) (fun q _ => match q with | .int _ x => ((N - m : Nat) - x).toNat | _ => 0)
            case atStart => exact ⟨0, Nat.zero_le _, rfl, Kept.refl _ _, HS0.out⟩
            case round =>
              obtain ⟨j, hj, rfl, K, hrow⟩ := hrel
              have HK := Lib.hid K
              have HRO := Lib.hid hrow
              clear K hrow
              by_cases hlt : j < N - m
              · have h0 := hj
                have hjl : m + j < t.length := by have := HN.out; omega
                have HX := Lib.hid (get_of hjl)
                have hki := HKI.out _ (List.getElem_mem hjl)
                have hx8 := rows_ev (HFIN.out _ HK.out).2.2 (by omega) HX.out
                rw [Nat.add_mul] at hx8
                generalize t[m + j] = x at HX hx8 hki
                obtain ⟨k, hk⟩ : ∃ k : Nat, x.kind = (k : Int) := ⟨x.kind.toNat, by omega⟩
                have hk9 : k < 9 := by omega
                have HTS : Hid (tally (t.take (m + (j + 1))) = (tally (t.take (m + j))).set k ((((t.take (m + j)).countP fun x => decide (x.kind = (k : Int)) : Nat) : Int) + 1)) := Lib.hid (by rw [← Nat.add_assoc, Tr.take_snoc' HX.out, tally_snoc hk hk9])
                have hcnt : ((t.take (m + j)).countP fun x => decide (x.kind = (k : Int))) ≤ 200 := by
                  have := List.countP_le_length (p := fun x : Ev => decide (x.kind = (k : Int))) (l := t.take (m + j))
                  rw [List.length_take] at this
                  omega
                have t0 : wr.cell? ⟨B14, k, none⟩ = some (.int .i64 (((t.take (m + j)).countP fun x => decide (x.kind = (k : Int)) : Nat) : Int)) := HRO.out.get (by unfold iv9; rw [List.getElem?_map, tally_get _ hk9]; rfl)
                generalize ((t.take (m + j)).countP fun x => decide (x.kind = (k : Int))) = q at HTS hcnt t0
                have tf := HRO.out.fz k
                have tl := HRO.out.lt
                obtain ⟨a0, a1, a2, a3, a4, a5, a6, a7⟩ := hx8
                rw [hk] at a0
                have ka : (0 : Int) ≤ (k : Int) := by omega
                have kb : (k : Int) < 9 := by omega
                have kj : (0 : Int) ≤ (j : Int) := by omega
                have hsm : IntKind.i64.wrap ((q : Int) + 1) = (q : Int) + 1 := IntWalk.i64_in _ (by omega)
                clear hki
                go_wp2
                have HNX : Hid (Kept (fun b => b = B14) wB ((wr.setCell ⟨B14, k, none⟩ (.int .i64 ((q : Int) + 1))).alloc (.cells #[.int .i64 (k : Int), .int .i64 x.t, .int .i64 x.job, .int .i64 x.due, .int .i64 x.att, .int .i64 x.run, .int .i64 x.why, .int .i64 x.whn] 35)) ∧ RowAt ((wr.setCell ⟨B14, k, none⟩ (.int .i64 ((q : Int) + 1))).alloc (.cells #[.int .i64 (k : Int), .int .i64 x.t, .int .i64 x.job, .int .i64 x.due, .int .i64 x.att, .int .i64 x.run, .int .i64 x.why, .int .i64 x.whn] 35)) B14 (iv9 (tally (t.take (m + (j + 1)))))) := Lib.hid (by
                  rw [HTS.out]
                  have kk := HK.out.setCell ⟨B14, k, none⟩ (.int .i64 ((q : Int) + 1)) (fun _ => rfl)
                  refine ⟨kk.alloc _, ?_⟩
                  have := HRO.out.set (j := k) (by simp [iv9, tally_len]; omega) (.int .i64 ((q : Int) + 1))
                  unfold iv9 at this ⊢
                  rw [List.map_set]
                  exact this.same ((Kept.refl (fun _ => False) _).alloc _))
                go_roundw
                case rel => exact ⟨j + 1, by omega, by go_num, HNX.out.1, HNX.out.2⟩
                case measure => first | (simp; done) | (simp; omega)
              · obtain rfl : j = N - m := by omega
                have HT7 := Lib.hid (HFIN.out _ HK.out).2.2
                have HK7 := Lib.hid (HFIN.out _ HK.out).1
                have HA7 := Lib.hid (HFIN.out _ HK.out).2.1
                have HB7 : Hid (RowAt wr B14 #[.int .i64 0, .int .i64 y1, .int .i64 y2, .int .i64 y3, .int .i64 y4, .int .i64 y5, .int .i64 y6, .int .i64 y7, .int .i64 y8].toList) := Lib.hid (by
                  have h := HRO.out
                  rw [List.take_of_length_le (by have := HN.out; omega), HY.out] at h
                  exact h)
                clear HRO HK HFIN HS0 HGB HB6 HWB
                go_wp2_with (go_at_call 32; fail)
                refine (prefix_range HT7.out HNZ.out HOK.out HW.out (by rw [HN.out]; omega) (by omega)).mono ?_
                rintro e w7 ⟨u7, rfl, K7⟩
                have HT8 := Lib.hid (HT7.out.same K7)
                have HK8 := Lib.hid (HK7.out.trans K7 (fun _ _ h => h))
                have HA8 := Lib.hid (HA7.out.same K7)
                have HB8 := Lib.hid (HB7.out.same K7)
                clear K7 HT7 HK7 HA7 HB7
                go_wp2_with (go_at_call 32; fail)
                refine (prefix_range HT8.out HNZ.out HOK.out HW.out (by rw [HN.out]; omega) (by omega)).mono ?_
                rintro e w8 ⟨u8, rfl, K8⟩
                have HT9 := Lib.hid (HT8.out.same K8)
                have HK9 := Lib.hid (HK8.out.trans K8 (fun _ _ h => h))
                have HA9 := Lib.hid (HA8.out.same K8)
                have HB9 := Lib.hid (HB8.out.same K8)
                clear K8 HT8 HK8 HA8 HB8
                have HPF := Lib.hid (prefix_made HT9.out HNZ.out HOK.out HW.out (by rw [HN.out]; omega) (now := 253402300799) (by omega))
                rw [HALL.out] at HPF
                go_wp2_with (go_at_call 32; fail)
                refine HPF.out.mono ?_
                rintro e w9 ⟨ua, rfl, hua⟩
                obtain ⟨pu, cu, hvu⟩ := hua.val
                rw [HN.out] at hvu
                subst hvu
                have ra := HA9.out.same hua.2.2
                have rb := HB9.out.same hua.2.2
                have HK10 := Lib.hid (HK9.out.trans hua.2.2 (fun _ _ h => h))
                clear hua HPF HT9 HK9 HA9 HB9
                have a0 := ra.get (j := 0) rfl
                have a1 := ra.get (j := 1) rfl
                have a2 := ra.get (j := 2) rfl
                have a3 := ra.get (j := 3) rfl
                have a4 := ra.get (j := 4) rfl
                have a5 := ra.get (j := 5) rfl
                have a6 := ra.get (j := 6) rfl
                have a7 := ra.get (j := 7) rfl
                have a8 := ra.get (j := 8) rfl
                have al := ra.lt
                have b0 := rb.get (j := 0) rfl
                have b1 := rb.get (j := 1) rfl
                have b2 := rb.get (j := 2) rfl
                have b3 := rb.get (j := 3) rfl
                have b4 := rb.get (j := 4) rfl
                have b5 := rb.get (j := 5) rfl
                have b6 := rb.get (j := 6) rfl
                have b7 := rb.get (j := 7) rfl
                have b8 := rb.get (j := 8) rfl
                have bl := rb.lt
                have he4 := run_equalIn9 w9 [0, y1, y2, y3, y4, y5, y6, y7, y8] [0, y1, y2, y3, y4, y5, y6, y7, y8] rfl rfl
                simp only [iv9, List.map_cons, List.map_nil, decide_true] at he4
                clear ra rb
                go_wp2_with (go_at_call 14; fail)
                refine (works_c _).mono ?_
                rintro e w10 ⟨rfl, K10⟩
                have HK11 := Lib.hid (HK10.out.trans K10 (fun _ _ h => h))
                clear K10 a0 a1 a2 a3 a4 a5 a6 a7 a8 al b0 b1 b2 b3 b4 b5 b6 b7 b8 bl he4
                go_wp2
                go_ret
                exact ⟨rfl, HK11.out⟩
          · have hmct : m = ct := by omega
            have hmN2 : m = N := by omega
            go_wp2
            go_loopw [125] (fun q wr => ∃ j : Nat, j ≤ N - m ∧ q = .int .i64 j ∧ Kept (fun b => b = B14) wB wr ∧ RowAt wr B14 (iv9 (tally (t.take (m + j))))) (fun q _ => match q with | .int _ x => ((N - m : Nat) - x).toNat | _ => 0)
            case atStart => exact ⟨0, Nat.zero_le _, rfl, Kept.refl _ _, HS0.out⟩
            case round =>
              obtain ⟨j, hj, rfl, K, hrow⟩ := hrel
              have HK := Lib.hid K
              have HRO := Lib.hid hrow
              clear K hrow
              by_cases hlt : j < N - m
              · exfalso; omega
              · obtain rfl : j = N - m := by omega
                have HT7 := Lib.hid (HFIN.out _ HK.out).2.2
                have HK7 := Lib.hid (HFIN.out _ HK.out).1
                have HA7 := Lib.hid (HFIN.out _ HK.out).2.1
                have HB7 : Hid (RowAt wr B14 #[.int .i64 0, .int .i64 y1, .int .i64 y2, .int .i64 y3, .int .i64 y4, .int .i64 y5, .int .i64 y6, .int .i64 y7, .int .i64 y8].toList) := Lib.hid (by
                  have h := HRO.out
                  rw [List.take_of_length_le (by have := HN.out; omega), HY.out] at h
                  exact h)
                clear HRO HK HFIN HS0 HGB HB6 HWB
                go_wp2_with (go_at_call 32; fail)
                refine (prefix_range HT7.out HNZ.out HOK.out HW.out (by rw [HN.out]; omega) (by omega)).mono ?_
                rintro e w7 ⟨u7, rfl, K7⟩
                have HT8 := Lib.hid (HT7.out.same K7)
                have HK8 := Lib.hid (HK7.out.trans K7 (fun _ _ h => h))
                have HA8 := Lib.hid (HA7.out.same K7)
                have HB8 := Lib.hid (HB7.out.same K7)
                clear K7 HT7 HK7 HA7 HB7
                go_wp2_with (go_at_call 32; fail)
                refine (prefix_range HT8.out HNZ.out HOK.out HW.out (by rw [HN.out]; omega) (by omega)).mono ?_
                rintro e w8 ⟨u8, rfl, K8⟩
                have HT9 := Lib.hid (HT8.out.same K8)
                have HK9 := Lib.hid (HK8.out.trans K8 (fun _ _ h => h))
                have HA9 := Lib.hid (HA8.out.same K8)
                have HB9 := Lib.hid (HB8.out.same K8)
                clear K8 HT8 HK8 HA8 HB8
                have HPF := Lib.hid (prefix_made HT9.out HNZ.out HOK.out HW.out (by rw [HN.out]; omega) (now := 253402300799) (by omega))
                rw [HALL.out] at HPF
                go_wp2_with (go_at_call 32; fail)
                refine HPF.out.mono ?_
                rintro e w9 ⟨ua, rfl, hua⟩
                obtain ⟨pu, cu, hvu⟩ := hua.val
                rw [HN.out] at hvu
                subst hvu
                have ra := HA9.out.same hua.2.2
                have rb := HB9.out.same hua.2.2
                have HK10 := Lib.hid (HK9.out.trans hua.2.2 (fun _ _ h => h))
                clear hua HPF HT9 HK9 HA9 HB9
                have a0 := ra.get (j := 0) rfl
                have a1 := ra.get (j := 1) rfl
                have a2 := ra.get (j := 2) rfl
                have a3 := ra.get (j := 3) rfl
                have a4 := ra.get (j := 4) rfl
                have a5 := ra.get (j := 5) rfl
                have a6 := ra.get (j := 6) rfl
                have a7 := ra.get (j := 7) rfl
                have a8 := ra.get (j := 8) rfl
                have al := ra.lt
                have b0 := rb.get (j := 0) rfl
                have b1 := rb.get (j := 1) rfl
                have b2 := rb.get (j := 2) rfl
                have b3 := rb.get (j := 3) rfl
                have b4 := rb.get (j := 4) rfl
                have b5 := rb.get (j := 5) rfl
                have b6 := rb.get (j := 6) rfl
                have b7 := rb.get (j := 7) rfl
                have b8 := rb.get (j := 8) rfl
                have bl := rb.lt
                have he4 := run_equalIn9 w9 [0, y1, y2, y3, y4, y5, y6, y7, y8] [0, y1, y2, y3, y4, y5, y6, y7, y8] rfl rfl
                simp only [iv9, List.map_cons, List.map_nil, decide_true] at he4
                clear ra rb
                go_wp2_with (go_at_call 14; fail)
                refine (works_c _).mono ?_
                rintro e w10 ⟨rfl, K10⟩
                have HK11 := Lib.hid (HK10.out.trans K10 (fun _ _ h => h))
                clear K10 a0 a1 a2 a3 a4 a5 a6 a7 a8 al b0 b1 b2 b3 b4 b5 b6 b7 b8 bl he4
                go_wp2
                go_ret
                exact ⟨rfl, HK11.out⟩
end Go.Proofs.Ytfhlllmicobafaa

/- WiThB: texts for the statements of this seat: contracts of functions, walks, plain laws. Conditions: none. -/
import Derived.Deep.RegionLaw
import Derived.Deep.RegionHeld3
import Derived.Deep.CutRange
import Derived.Deep.DeepCutAuto
import Derived.Test.YtelgknecainlfaaWiThA
import Derived.Test.YtelgknecainlfaaGeStep
set_option linter.all false
/- The walk of the statement WindowThins. -/
namespace Go.Proofs.Ytelgknecainlfaa
open Go.RowKit
open Wi (vld Srt chk limE)

theorem ints_take {w : World} {p : Option Addr} {m c a : Nat} {M ys : List Int} (h : Ints w (.slice p m c) M) (ha : a ≤ M.length) (hy : ys = M.take a) : Ints w (.slice p a c) ys := by
  have hyl : ys.length = a := by rw [hy, List.length_take]; omega
  rcases Nat.eq_zero_or_pos a with h0 | h0
  · subst h0
    obtain rfl := List.eq_nil_of_length_eq_zero hyl
    exact .inl ⟨p, c, rfl, rfl⟩
  · obtain ⟨b, off, cap, hv, hb, hc⟩ := h.pos (by omega)
    injection hv with e1 e2 e3
    subst e1 e3
    refine .inr ⟨b, off, c, by rw [hyl], hb, fun j x hx => ?_⟩
    rw [hy] at hx
    have hj : j < a := by have := (List.getElem?_eq_some_iff.1 hx).1; rw [List.length_take] at this; omega
    rw [List.getElem?_take_of_lt hj] at hx
    exact hc j x hx
set_option maxRecDepth 100000 in
set_option maxHeartbeats 40000000 in
theorem thins_of (HWK : Hid (∀ w : World, Calls Try.prog 14 #[] w fun e w' => e = .returned (.bool true) ∧ Kept (fun _ => False) w w')) {w : World} {v : Value} {l : List Int} (h : Ints w v l) (hl : l.length ≤ maxLen) (T U : Int) : Calls Try.prog 5 #[.agg #[.int .i64 T, .int .i64 U], v] w fun e w' => e = .returned (.bool true) ∧ Kept (fun _ => False) w w' := by
  have HK0 := Lib.hid ((Kept.refl (fun _ => False) w).alloc (.cells #[.int .i64 T, .int .i64 U] 23))
  have HROW := Lib.hid (RowAt.new w 23 #[.int .i64 T, .int .i64 U])
  by_cases g1 : 60 < l.length
  · obtain ⟨aa, cap, rfl⟩ := h.len
    have hl2 := maxlen_le hl
    clear h hl
    generalize l.length = n at g1 hl2 ⊢
    have g2 : (60 : Int) < n := by omega
    go_enter Try.func5, Try.ntmps5
    go_wp2_with (go_at_call 14; refine (HWK.out _).mono ?_; rintro e w2 ⟨rfl, K⟩)
    go_ret
    exact ⟨rfl, HK0.out.trans K (fun _ _ h => h)⟩
  have hl' : l.length ≤ 4611686018427387904 := by omega
  have HQ := Lib.hid h
  have HC1 := Lib.hid (fun W (K : Kept (fun _ => False) w W) => thin_c (h.same K) hl' T U)
  have HC2 := Lib.hid (fun W (K : Kept (fun _ => False) w W) => keeps_c (h.same K) hl' T U)
  obtain ⟨aa, cap, rfl⟩ := h.len
  obtain ⟨n, hnn⟩ : ∃ n : Nat, n = l.length := ⟨_, rfl⟩
  rw [← hnn] at g1 HQ HC1 HC2 ⊢
  have HN := Lib.hid hnn
  have g2 : ¬ (60 : Int) < n := by omega
  clear h hl hl' hnn
  by_cases hz : bothE T U l = 0
  · have HZ := Lib.hid hz
    clear hz
    go_enter Try.func5, Try.ntmps5
    go_upto_region 3 with fail
    generalize w.heap.size = rb at HROW ⊢
    generalize w.alloc (.cells #[.int .i64 T, .int .i64 U] 23) = w0 at HROW HK0 ⊢
    have c0 := HROW.out.get (j := 0) rfl
    have c1 := HROW.out.get (j := 1) rfl
    have hb := HROW.out.lt
    go_wp2_with (go_at_call 17; fail)
    refine (HC1.out _ HK0.out).mono ?_
    rintro e w1 ⟨va, rfl, hra⟩
    rw [if_pos HZ.out] at hra
    rw [HZ.out]
    have hK := hra.2.2
    have HK1 := Lib.hid (HK0.out.trans hK (fun _ _ h => h))
    have HR1 := Lib.hid (HROW.out.same hK)
    have HA1 := Lib.hid hra.ints
    obtain ⟨pa, ca, rfl⟩ := hra.val
    have HCA : Hid ((thinF T U l).length ≤ ca) := Lib.hid (by
      rcases hra.1.2 with ⟨hv, h0⟩ | ⟨g, cp, cur, hv, -, -, h1, -⟩
      · omega
      · injection hv with _ _ e3; omega)
    clear hra hK HK0 HROW c0 c1 hb HC1
    have c0 := HR1.out.get (j := 0) rfl
    have c1 := HR1.out.get (j := 1) rfl
    have hb := HR1.out.lt
    have HML : Hid ((thinF T U l).length ≤ n) := Lib.hid (by have := thinF_len' T U l; have := HN.out; omega)
    obtain ⟨m, hm⟩ : ∃ m : Nat, m = (thinF T U l).length := ⟨_, rfl⟩
    rw [← hm] at HA1 HCA HML ⊢
    have HM := Lib.hid hm
    clear hm
    go_wp2_with (go_at_call 15; fail)
    refine (HC2.out _ HK1.out).mono ?_
    rintro e w2 ⟨ki, kj, kb, rfl, hr, K⟩
    rw [if_pos HZ.out] at hr
    rw [HZ.out]
    have HALL : Hid (kb = decide (m = n)) := Lib.hid (by
      have h1 := (keepsR_kp hr).trans thin_all
      rw [← HM.out, ← HN.out] at h1
      rw [Bool.eq_iff_iff, h1, decide_eq_true_eq])
    have HK2 := Lib.hid (HK1.out.trans K (fun _ _ h => h))
    have HR2 := Lib.hid (HR1.out.same K)
    have HA2 := Lib.hid (HA1.out.same K)
    clear hr K HK1 HR1 HA1 c0 c1 hb HC2
    have c0 := HR2.out.get (j := 0) rfl
    have c1 := HR2.out.get (j := 1) rfl
    have hb := HR2.out.lt
    have HC3 := Lib.hid (keeps_c HA2.out (by have := HML.out; have := HM.out; omega) T U)
    go_wp2_with (go_at_call 15; fail)
    refine HC3.out.mono ?_
    rintro e w3 ⟨ki2, kj2, kb2, rfl, hr, K⟩
    have hbM := both_sub (thin_sub T U l) HZ.out
    rw [if_pos hbM] at hr
    rw [hbM]
    have hkb2 : kb2 = true := (keepsR_kp hr).2 (by have := thU_keep T U l l.length; rwa [thU_all (Nat.le_refl _)] at this)
    subst hkb2
    have HK3 := Lib.hid (HK2.out.trans K (fun _ _ h => h))
    have HR3 := Lib.hid (HR2.out.same K)
    have HA3 := Lib.hid (HA2.out.same K)
    clear hr K HK2 HR2 HA2 c0 c1 hb HC3 hbM
    have hmn := HML.out
    have hmn2 : ¬ (n : Int) < (m : Int) := by omega
    go_upto_region 8 with fail
    go_cut [85] from 60 to 85 (fun s85 wx => s85 = .bool false ∧ w3 = wx)
    case first =>
      cases kb with
      | true =>
        obtain rfl : m = n := by simpa using HALL.out
        go_wp2_with fail
        go_meet
        exact ⟨rfl, rfl⟩
      | false =>
        have hmq : ¬ m = n := by simpa using HALL.out
        have hmq2 : ((m : Int) == (n : Int)) = false := by simp; omega
        have hmq3 : ¬ (m : Int) = (n : Int) := by omega
        have hmq4 : ¬ n < m := by omega
        have hmq5 : decide (n < m) = false := decide_eq_false hmq4
        clear hmq
        go_wp2_with fail
        go_meet
        exact ⟨rfl, rfl⟩
    case rest =>
      obtain ⟨rfl, rfl⟩ := hcut
      clear HALL hmn2
      go_wp2
      go_loopw [15, 16] (fun av jv wr => ∃ (j : Nat), j ≤ n ∧ jv = .int .i64 j ∧ av = .int .i64 ((thU T U l j).length) ∧ Kept (fun _ => False) w3 wr) (fun _ i _ => match i with | .int _ x => (n - x).toNat | _ => 0)
      case atStart => exact ⟨0, Nat.zero_le _, rfl, rfl, Kept.refl _ _⟩
      case round =>
        obtain ⟨j, hj, rfl, rfl, K⟩ := hrel
        have HK := Lib.hid K
        clear K
        have hpre := thU_pre T U l j
        have hal : (thU T U l j).length ≤ m := by
          have := congrArg List.length hpre
          rw [List.length_take] at this
          have := HM.out
          omega
        obtain ⟨a, ha⟩ : ∃ a : Nat, (thU T U l j).length = a := ⟨_, rfl⟩
        rw [ha] at hal hpre ⊢
        have HPRE := Lib.hid hpre
        have HA := Lib.hid ha
        clear ha hpre
        by_cases hlt : j < n
        · have hjl : j < l.length := by have := HN.out; omega
          obtain ⟨b0, off, cap', hv, hb0, hcell⟩ := ((HQ.out.same HK3.out).same HK.out).pos (by have := HN.out; omega)
          rw [← HN.out] at hv
          injection hv with e1 e2 e3
          subst e1 e3
          have d0 := IntsK.at hcell hjl
          clear hcell e2
          have HX := Lib.hid (get_of hjl)
          generalize l[j] = x at d0 HX
          have c0 := (HR3.out.same HK.out).get (j := 0) rfl
          have c1 := (HR3.out.same HK.out).get (j := 1) rfl
          have hb := (HR3.out.same HK.out).lt
          have hac : a ≤ ca := by have := HCA.out; omega
          go_upto_region 14 with fail
          have HU : Hid (∀ W, Kept (fun _ => False) wr W → Ints W (.slice pa a ca) (thU T U l j)) := Lib.hid fun W K => ints_take (HA3.out.same (HK.out.trans K (fun _ _ h => h))) (by have := HM.out; omega) HPRE.out
          have HUL : Hid ((thU T U l j).length ≤ 1000000 ∧ (thU T U l j).length + [x].length ≤ 1000000) := Lib.hid (by rw [HA.out]; simp; omega)
          have HRD : Hid (∀ W, Kept (fun _ => False) wr W → W.cell? ⟨rb, 0, none⟩ = some (.int .i64 T) ∧ W.cell? ⟨rb, 1, none⟩ = some (.int .i64 U) ∧ rb < W.heap.size ∧ W.cell? ⟨b0, off + j, none⟩ = some (.int .i64 x) ∧ b0 < W.heap.size) := Lib.hid fun W K =>
            ⟨(HR3.out.same (HK.out.trans K (fun _ _ h => h))).get (j := 0) rfl, (HR3.out.same (HK.out.trans K (fun _ _ h => h))).get (j := 1) rfl, (HR3.out.same (HK.out.trans K (fun _ _ h => h))).lt, (K.cell (a := ⟨b0, off + j, none⟩) hb0 (fun h => h)).trans d0, Nat.lt_of_lt_of_le hb0 K.size⟩
          have HCK : Hid (∀ W vv, Ints W vv (thU T U l j ++ [x]) → Calls Try.prog 15 #[.agg #[.int .i64 T, .int .i64 U], vv] W fun e w' => (∃ k1 k2, e = .returned (.tuple #[.int .i64 k1, .int .i64 k2, .bool (keepB T U (thU T U l j) x), .int .i64 0])) ∧ Kept (fun _ => False) W w') := Lib.hid fun W vv hv => (keeps_c hv (by have := HA.out; simp; omega) T U).mono fun e w' ⟨k1, k2, b, he, hr, K⟩ => by
            have h0 := both_sub (snoc_sub (T := T) (U := U) HX.out) HZ.out
            rw [if_pos h0] at hr
            rw [h0] at he
            have := would HX.out hr
            subst this
            exact ⟨⟨k1, k2, he⟩, K⟩
          go_cut [17, 18, 19, 20] from 92 to 109 (fun s17 s18 s19 s20 wx => (∃ k, s17 = .int .i64 k) ∧ (∃ k, s18 = .int .i64 k) ∧ s19 = .bool (keepB T U (thU T U l j) x) ∧ s20 = .int .i64 0 ∧ Kept (fun _ => False) w3 wx)
          case first =>
            go_region_held3 (fun W => W.cell? ⟨rb, 0, none⟩ = some (.int .i64 T) ∧ W.cell? ⟨rb, 1, none⟩ = some (.int .i64 U) ∧ rb < W.heap.size ∧ W.cell? ⟨b0, off + j, none⟩ = some (.int .i64 x) ∧ b0 < W.heap.size) (exact HRD.out _ (by repeat (first | exact Kept.refl _ _ | exact HKA.out | exact HKB.out | exact HK5r.out | refine Kept.alloc ?_ _ | refine Kept.drew ?_))) (first
              | (refine step_app0 rfl (.tmp 94) (.tmp 97) rfl el24 wr.heap.size _ (.slice pa a ca) (thU T U l j) rfl rfl (HU.out _ (by repeat (first | exact Kept.refl _ _ | refine Kept.alloc ?_ _ | refine Kept.drew ?_))) HUL.out.1 (by first | (simp; done) | (simp; omega)) ?_; intro v1 wa hf KA; have HFR := Lib.hid hf; have HWA := Lib.hid KA; have HKA : Hid (Kept (fun _ => False) wr wa) := Lib.hid (Kept.trans (by repeat (first | exact Kept.refl _ _ | refine Kept.alloc ?_ _ | refine Kept.drew ?_)) KA (fun _ _ h => h)); have ka := HRD.out _ HKA.out; obtain ⟨ka0, ka1, ka2, ka3, ka4⟩ := ka; clear hf KA)
              | (refine step_app1 rfl (.tmp 98) (.tmp 103) rfl el24 wr.heap.size v1 (.slice (some ⟨_, 0, none⟩) 1 1) (thU T U l j) [x] rfl rfl (HFR.out.kept (by repeat (first | exact Kept.refl _ _ | refine Kept.alloc ?_ _ | refine Kept.drew ?_))) (by first | (refine one_int ?_ ?_ <;> first | (simp; done) | (simp; omega)) | (refine one_int (Nat.lt_of_lt_of_le (?_ : _ < _) HWA.out.size) ((HWA.out.cell (a := ⟨_, 0, none⟩) ?_ (fun h => h)).trans ?_) <;> first | (simp; done) | (simp; omega))) HUL.out.2 (by have := HKA.out.size; simp; omega) ?_; intro v2 wb hi KB; have HIB := Lib.hid hi; have HKB : Hid (Kept (fun _ => False) wr wb) := Lib.hid (Kept.trans (T := fun b => wr.heap.size ≤ b) (by repeat (first | exact HKA.out | refine Kept.alloc ?_ _ | refine Kept.drew ?_)) KB (fun i hi h => by omega)); have kb := HRD.out _ HKB.out; obtain ⟨kb0, kb1, kb2, kb3, kb4⟩ := kb; clear hi KB)
              | (go_simp; go_at_call 15; refine (HCK.out _ v2 (HIB.out.same (by repeat (first | exact Kept.refl _ _ | refine Kept.alloc ?_ _ | refine Kept.drew ?_)))).mono ?_; rintro e w5 ⟨⟨k1, k2, rfl⟩, K5⟩; have HK5r : Hid (Kept (fun _ => False) wr w5) := Lib.hid (Kept.trans (by repeat (first | exact HKB.out | refine Kept.alloc ?_ _ | refine Kept.drew ?_)) K5 (fun _ _ h => h)); have HK5 : Hid (Kept (fun _ => False) w3 w5) := Lib.hid (HK.out.trans (Kept.trans (by repeat (first | exact HKB.out | refine Kept.alloc ?_ _ | refine Kept.drew ?_)) K5 (fun _ _ h => h)) (fun _ _ h => h)); clear K5))
            all_goals
              go_wp2_with fail
              go_meet
              exact ⟨⟨_, rfl⟩, ⟨_, rfl⟩, rfl, rfl, HK5.out⟩
          case rest =>
            obtain ⟨⟨k1, rfl⟩, ⟨k2, rfl⟩, rfl, rfl, K1⟩ := hcut
            have HK1 := Lib.hid K1
            have HS := Lib.hid (thU_step (T := T) (U := U) HX.out)
            have HPN := Lib.hid (thU_pre T U l (j + 1))
            clear K1 HRD HU HCK HUL c0 c1 d0
            cases hkb : keepB T U (thU T U l j) x with
            | false =>
              have HL : Hid ((thU T U l (j + 1)).length = a) := Lib.hid (by rw [HS.out, hkb, if_neg (by decide)]; exact HA.out)
              clear hkb
              go_wp2
              go_roundw
              case rel => exact ⟨j + 1, by omega, by go_num, by rw [HL.out], HK1.out⟩
              case measure => simp; omega
            | true =>
              have hth : thU T U l (j + 1) = thU T U l j ++ [x] := by rw [HS.out, hkb, if_pos rfl]
              have hln : (thU T U l (j + 1)).length = a + 1 := by rw [hth, List.length_append, HA.out]; rfl
              have ham : a < m := by
                have := congrArg List.length HPN.out
                rw [List.length_take, hln] at this
                have := HM.out
                omega
              have hma : (thinF T U l)[a]? = some x := by
                have h1 := HPN.out
                rw [hln] at h1
                have h2 : (thU T U l (j + 1))[a]? = some x := by rw [hth, ← HA.out]; simp
                rw [h1, List.getElem?_take_of_lt (by omega)] at h2
                exact h2
              have HL : Hid ((thU T U l (j + 1)).length = a + 1) := Lib.hid hln
              obtain ⟨bm, om, cm, hv, hbm, hcm⟩ := (HA3.out.same HK1.out).pos (by have := HM.out; omega)
              rw [← HM.out] at hv
              injection hv with e1 e2 e3
              subst e1 e3
              have m0 := hcm a x hma
              obtain ⟨b1, o1, ca1, hv, hb1', hcell⟩ := ((HQ.out.same HK3.out).same HK1.out).pos (by have := HN.out; omega)
              rw [← HN.out] at hv
              injection hv with e1 e2 e3
              injection e1 with e1
              injection e1 with e1 e1' _
              subst e1 e1'
              have d1 := hcell j x HX.out
              clear e2 e3 hcell hcm hma hth hln hkb
              have ham2 : (a : Int) < (m : Int) := by omega
              have hd1 : decide ((m : Int) ≤ (a : Int)) = false := decide_eq_false (by omega)
              have hxx : (x == x) = true := by simp
              go_wp2
              go_quiet (fail)
              go_wp2
              go_roundw
              case rel => exact ⟨j + 1, by omega, by go_num, by rw [HL.out]; go_num, HK1.out.drewN _⟩
              case measure => simp; omega
        · have HF : Hid (a = m) := Lib.hid (by rw [← HA.out, thU_all (by have := HN.out; omega), HM.out])
          obtain rfl := HF.out
          go_wp2_with (go_at_call 14; refine (HWK.out _).mono ?_; rintro e w5 ⟨rfl, K⟩)
          go_ret
          exact ⟨rfl, HK3.out.trans (HK.out.trans K (fun _ _ h => h)) (fun _ _ h => h)⟩
  · obtain ⟨r, hr⟩ : ∃ r, bothE T U l = r := ⟨_, rfl⟩
    have HR := Lib.hid hr
    have HZ := Lib.hid hz
    rw [hr] at hz
    have hb1 : (r == 0) = false := by simpa using hz
    have hb2 : (r != 0) = true := by simpa using hz
    clear hr
    go_enter Try.func5, Try.ntmps5
    go_upto_region 3 with fail
    generalize w.heap.size = rb at HROW ⊢
    generalize w.alloc (.cells #[.int .i64 T, .int .i64 U] 23) = w0 at HROW HK0 ⊢
    have c0 := HROW.out.get (j := 0) rfl
    have c1 := HROW.out.get (j := 1) rfl
    have hb := HROW.out.lt
    go_wp2_with (go_at_call 17; fail)
    refine (HC1.out _ HK0.out).mono ?_
    rintro e w1 ⟨va, rfl, hra⟩
    rw [if_neg HZ.out] at hra
    rw [HR.out]
    have hK := hra.2.2
    have HK1 := Lib.hid (HK0.out.trans hK (fun _ _ h => h))
    have HR1 := Lib.hid (HROW.out.same hK)
    obtain ⟨pa, ca, rfl⟩ := hra.val
    clear hra hK HK0 HROW c0 c1 hb HC1
    have c0 := HR1.out.get (j := 0) rfl
    have c1 := HR1.out.get (j := 1) rfl
    have hb := HR1.out.lt
    go_wp2_with (go_at_call 15; fail)
    refine (HC2.out _ HK1.out).mono ?_
    rintro e w2 ⟨ki, kj, kb, rfl, hr, K⟩
    rw [HR.out]
    have HK2 := Lib.hid (HK1.out.trans K (fun _ _ h => h))
    clear hr K HK1 HR1 c0 c1 hb HC2
    go_wp2_with (go_at_call 14; refine (HWK.out _).mono ?_; rintro e w5 ⟨rfl, K⟩)
    go_ret
    exact ⟨rfl, HK2.out.trans K (fun _ _ h => h)⟩
end Go.Proofs.Ytelgknecainlfaa

/- TrPossible: texts for the statements of this seat: contracts of functions, walks, plain laws. Conditions: none. -/
import Derived.Deep.CutRange
import Derived.Deep.DeepCutAuto
import Derived.Test.YtfhlllmicobafaaTrUnder
import Derived.Test.YtfhlllmicobafaaTrRcAll
import Derived.Test.YtfhlllmicobafaaTrChkAll
import Derived.Test.YtfhlllmicobafaaTrCheck
set_option linter.all false
/- possible of the reference. -/
namespace Go.Proofs.Ytfhlllmicobafaa
open Go.RowKit
open Tr (Ev)

theorem last_succ {l : List Ev} {k : Nat} {x : Ev} (h : l[k]? = some x) : Tr.last (l.take (k + 1)) = if x.kind = 1 then x.run else Tr.last (l.take k) := by
  rw [Tr.take_snoc' h, Tr.last_snoc]; rfl
theorem any_succ {u : List Ev} {k : Nat} {x y : Ev} (h : u[k]? = some y) : (u.take (k + 1)).any (Tr.sameB x) = ((u.take k).any (Tr.sameB x) || Tr.sameB x y) := by
  rw [Tr.take_snoc' h, List.any_append]; simp
theorem any_mem {u : List Ev} {k : Nat} {x y : Ev} (h : u[k]? = some y) (hs : Tr.sameB x y = true) : u.any (Tr.sameB x) = true := List.any_eq_true.2 ⟨y, List.mem_of_getElem? h, hs⟩
set_option maxRecDepth 100000 in
set_option maxHeartbeats 8000000 in
theorem possible_c {w : World} {v : Value} {l : List Ev} (h : Evs w v l) (hl : l.length ≤ 1000000) (jobs : Int) (i : Nat) {x : Ev} (hx : l[i]? = some x) (hw : Wf x.run) (hok : Tr.Ok jobs (l.take i)) :
    Calls Try.prog 56 #[v, .int .i64 i, .int .i64 jobs] w fun r w' => r = .returned (.int .i64 (Tr.poss jobs (l.take i) x)) ∧ Kept (fun _ => False) w w' := by
  have HQ := Lib.hid h
  have HX := Lib.hid hx
  have HOK := Lib.hid hok
  have hil : i < l.length := (List.getElem?_eq_some_iff.1 hx).1
  have HUC := Lib.hid (fun W (K : Kept (fun _ => False) w W) => under_c (h.same K) hl i (by omega))
  obtain ⟨b0, off, cap, rfl, hcp, hb0, hrows⟩ := h.pos (by omega)
  obtain ⟨N, hN⟩ : ∃ N : Nat, N = l.length := ⟨_, rfl⟩
  rw [← hN] at hl hil HQ HUC ⊢
  have HN := Lib.hid hN
  have hx8 := hrows.ev hx
  have HRW := Lib.hid hrows
  have hlast := Tr.last_nonneg _ hok
  rw [List.length_take] at hlast
  obtain ⟨la, hla⟩ : ∃ la, Tr.last (l.take i) = la := ⟨_, rfl⟩
  have HL := Lib.hid hla
  have hl0 : 0 ≤ la ∧ la ≤ 1000000 := by rw [← hla]; omega
  have hrw2 := hw.le
  clear h hN hx hok hrows hla hlast hcp hw
  obtain ⟨a0, a1, a2, a3, a4, a5, a6, a7⟩ := hx8
  have HROW := Lib.hid (RowAt.new w 35 (evC x).toArray)
  have HK0 := Lib.hid ((Kept.refl (fun _ => False) w).alloc (.cells (evC x).toArray 35))
  have i1 : (0 : Int) ≤ (i : Int) := by omega
  have i2 : (i : Int) < N := by omega
  go_enter Try.func56, Try.ntmps56
  go_wp2_with (go_at_call 70; fail)
  refine (chk70_c x _).mono ?_
  rintro e w2 ⟨rfl, K2⟩
  have HK2 := Lib.hid (HK0.out.trans K2 (fun _ _ h => h))
  have HR2 := Lib.hid (HROW.out.same K2)
  clear K2 HK0 HROW a0 a1 a2 a3 a4 a5 a6 a7
  obtain ⟨X, hX⟩ : ∃ X, w.heap.size = X := ⟨_, rfl⟩
  rw [hX] at HR2 ⊢
  clear hX
  have c0 := HR2.out.get (j := 0) rfl
  have c1 := HR2.out.get (j := 1) rfl
  have c2 := HR2.out.get (j := 2) rfl
  have c3 := HR2.out.get (j := 3) rfl
  have c4 := HR2.out.get (j := 4) rfl
  have c5 := HR2.out.get (j := 5) rfl
  have hb := HR2.out.lt
  obtain ⟨c, hc⟩ : ∃ c, Tr.chk x = c := ⟨_, rfl⟩
  have HC := Lib.hid hc
  rw [hc]
  by_cases hc0 : ¬ c = 0
  · clear hc
    have hcb : (c == 0) = false := by simpa using hc0
    have hcb2 : (c != 0) = true := by simpa using hc0
    have HE : Hid (Tr.poss jobs (l.take i) x = c) := Lib.hid ((Tr.poss_chk (by rw [HC.out]; exact hc0)).trans HC.out)
    go_wp2
    go_ret
    exact ⟨by rw [HE.out]; rfl, HK2.out⟩
  · obtain rfl := Decidable.not_not.1 hc0
    clear hc hc0
    by_cases hk6 : x.kind = 6
    · have HJB : Hid (x.kind = 6 ∨ x.job < jobs) := Lib.hid (.inl hk6)
      have HK6 := Lib.hid hk6
      have hk6b : (x.kind != 6) = false := by simpa using hk6
      clear hk6
      go_upto_region 7 with (go_at_call 71; refine (usesjob_b false x.kind _ hk6b).mono ?_; rintro e w' ⟨rfl, rfl⟩)
      go_cut [43] from 31 to 43 (fun s wx => s = .bool (Tr.early (l.take i) x) ∧ Kept (fun _ => False) w2 wx)
      case first =>
        rcases Nat.eq_zero_or_pos i with h0 | h0
        · subst h0
          have HEA : Hid (Tr.early (l.take 0) x = false) := Lib.hid (Tr.early_zero l x)
          go_quiet (fail)
          go_wp2_with fail
          go_meet
          exact ⟨by rw [HEA.out], (Kept.refl _ _).drewN _⟩
        · obtain ⟨k, rfl⟩ : ∃ k, i = k + 1 := ⟨i - 1, by omega⟩
          have hkl : k < l.length := by have := HN.out; omega
          have hy := (HRW.out.kept hb0 HK2.out (fun h => h)).ev (get_of hkl)
          have HEA := Lib.hid (Tr.early_succ (x := x) (get_of hkl))
          generalize l[k] = y at hy HEA
          have d1 := hy.c1
          clear hy
          have hj1 : (0 : Int) ≤ (k : Int) := by omega
          have hj2 : (k : Int) < N := by omega
          have hwr : IntKind.i64.wrap (((k + 1 : Nat) : Int) - 1) = k := by rw [show ((k + 1 : Nat) : Int) - 1 = (k : Int) by omega]; exact IntWalk.i64_in _ (by omega)
          by_cases hty : x.t < y.t
          · have HEB : Hid (Tr.early (l.take (k + 1)) x = true) := Lib.hid (by rw [HEA.out]; simpa using hty)
            go_quiet (fail)
            go_wp2_with fail
            go_meet
            exact ⟨by rw [HEB.out], (Kept.refl _ _).drewN _⟩
          · have HEB : Hid (Tr.early (l.take (k + 1)) x = false) := Lib.hid (by rw [HEA.out]; simpa using hty)
            go_quiet (fail)
            go_wp2_with fail
            go_meet
            exact ⟨by rw [HEB.out], (Kept.refl _ _).drewN _⟩
      case rest =>
        obtain ⟨rfl, KX0⟩ := hcut
        obtain ⟨wx, hwx, KX⟩ := name_w KX0
        clear KX0
        subst hwx
        have HR3 := Lib.hid (HR2.out.same KX)
        have HK3 := Lib.hid (HK2.out.trans KX (fun _ _ h => h))
        clear KX c0 c1 c2 c3 c4 c5 hb
        have c0 := HR3.out.get (j := 0) rfl
        have c1 := HR3.out.get (j := 1) rfl
        have c2 := HR3.out.get (j := 2) rfl
        have c3 := HR3.out.get (j := 3) rfl
        have c4 := HR3.out.get (j := 4) rfl
        have c5 := HR3.out.get (j := 5) rfl
        have hb := HR3.out.lt
        obtain ⟨ea, hea⟩ : ∃ ea, Tr.early (l.take i) x = ea := ⟨_, rfl⟩
        have HEA := Lib.hid hea
        rw [hea]
        clear hea
        cases ea with
        | true =>
          have HE : Hid (Tr.poss jobs (l.take i) x = 8) := Lib.hid (Tr.poss_early HC.out HJB.out HEA.out)
          go_wp2
          go_ret
          exact ⟨by rw [HE.out]; rfl, HK3.out⟩
        | false =>
          have hk6' := HK6.out
          have k1a : (x.kind == 1) = false := by simp; omega
          have k2a : (x.kind == 2) = false := by simp; omega
          have k3a : (x.kind == 3) = false := by simp; omega
          have HE : Hid (Tr.poss jobs (l.take i) x = 0) := Lib.hid (Tr.poss_rest HC.out HJB.out HEA.out (by omega) (by omega))
          clear hk6'
          go_wp2
          go_ret
          exact ⟨by rw [HE.out]; rfl, HK3.out⟩
    · by_cases hjb : jobs ≤ x.job
      · have hk6b : (x.kind != 6) = true := by simpa using hk6
        have HE : Hid (Tr.poss jobs (l.take i) x = 3) := Lib.hid (Tr.poss_job HC.out hk6 hjb)
        clear hk6
        go_wp2_with (go_at_call 71; refine (usesjob_b true x.kind _ hk6b).mono ?_; rintro e w' ⟨rfl, rfl⟩)
        go_ret
        exact ⟨by rw [HE.out]; rfl, HK2.out⟩
      · have hk6b : (x.kind != 6) = true := by simpa using hk6
        have HJB : Hid (x.kind = 6 ∨ x.job < jobs) := Lib.hid (.inr (by omega))
        have hjb2 : ¬ (jobs ≤ x.job) := hjb
        go_upto_region 7 with (go_at_call 71; refine (usesjob_b true x.kind _ hk6b).mono ?_; rintro e w' ⟨rfl, rfl⟩)
        go_cut [43] from 31 to 43 (fun s wx => s = .bool (Tr.early (l.take i) x) ∧ Kept (fun _ => False) w2 wx)
        case first =>
          rcases Nat.eq_zero_or_pos i with h0 | h0
          · subst h0
            have HEA : Hid (Tr.early (l.take 0) x = false) := Lib.hid (Tr.early_zero l x)
            go_quiet (fail)
            go_wp2_with fail
            go_meet
            exact ⟨by rw [HEA.out], (Kept.refl _ _).drewN _⟩
          · obtain ⟨k, rfl⟩ : ∃ k, i = k + 1 := ⟨i - 1, by omega⟩
            have hkl : k < l.length := by have := HN.out; omega
            have hy := (HRW.out.kept hb0 HK2.out (fun h => h)).ev (get_of hkl)
            have HEA := Lib.hid (Tr.early_succ (x := x) (get_of hkl))
            generalize l[k] = y at hy HEA
            have d1 := hy.c1
            clear hy
            have hj1 : (0 : Int) ≤ (k : Int) := by omega
            have hj2 : (k : Int) < N := by omega
            have hwr : IntKind.i64.wrap (((k + 1 : Nat) : Int) - 1) = k := by rw [show ((k + 1 : Nat) : Int) - 1 = (k : Int) by omega]; exact IntWalk.i64_in _ (by omega)
            by_cases hty : x.t < y.t
            · have HEB : Hid (Tr.early (l.take (k + 1)) x = true) := Lib.hid (by rw [HEA.out]; simpa using hty)
              go_quiet (fail)
              go_wp2_with fail
              go_meet
              exact ⟨by rw [HEB.out], (Kept.refl _ _).drewN _⟩
            · have HEB : Hid (Tr.early (l.take (k + 1)) x = false) := Lib.hid (by rw [HEA.out]; simpa using hty)
              go_quiet (fail)
              go_wp2_with fail
              go_meet
              exact ⟨by rw [HEB.out], (Kept.refl _ _).drewN _⟩
        case rest =>
          obtain ⟨rfl, KX0⟩ := hcut
          obtain ⟨wx, hwx, KX⟩ := name_w KX0
          clear KX0
          subst hwx
          have HR3 := Lib.hid (HR2.out.same KX)
          have HK3 := Lib.hid (HK2.out.trans KX (fun _ _ h => h))
          clear KX c0 c1 c2 c3 c4 c5 hb
          have c0 := HR3.out.get (j := 0) rfl
          have c1 := HR3.out.get (j := 1) rfl
          have c2 := HR3.out.get (j := 2) rfl
          have c3 := HR3.out.get (j := 3) rfl
          have c4 := HR3.out.get (j := 4) rfl
          have c5 := HR3.out.get (j := 5) rfl
          have hb := HR3.out.lt
          obtain ⟨ea, hea⟩ : ∃ ea, Tr.early (l.take i) x = ea := ⟨_, rfl⟩
          have HEA := Lib.hid hea
          rw [hea]
          clear hea
          cases ea with
          | true =>
            have HE : Hid (Tr.poss jobs (l.take i) x = 8) := Lib.hid (Tr.poss_early HC.out HJB.out HEA.out)
            go_wp2
            go_ret
            exact ⟨by rw [HE.out]; rfl, HK3.out⟩
          | false =>
            by_cases k1 : x.kind = 1
            · have K1 := Lib.hid k1
              have HPL := Lib.hid (Tr.poss_launch HC.out HJB.out HEA.out k1)
              have k1a : (x.kind == 1) = true := by simpa using k1
              have k2a : (x.kind == 2) = false := by simp; omega
              have k3a : (x.kind == 3) = false := by simp; omega
              have HL0 : Hid (Tr.last (l.take 0) = 0) := Lib.hid rfl
              clear k1 hk6b hk6
              go_wp2
              go_loopw [9, 10] (fun a q wr => ∃ k : Nat, k ≤ i ∧ q = .int .i64 k ∧ a = .int .i64 (Tr.last (l.take k)) ∧ Kept (fun _ => False) wx wr) (fun _ q _ => match q with | .int _ x => (i - x).toNat | _ => 0)
              case atStart => exact ⟨0, Nat.zero_le _, rfl, by rw [HL0.out], Kept.refl _ _⟩
              case round =>
                obtain ⟨k, hk, rfl, rfl, K⟩ := hrel
                have HK := Lib.hid K
                clear K
                by_cases hlt : k < i
                · have hkl : k < l.length := by have := HN.out; omega
                  have hkN : k < N := by omega
                  have hy := (HRW.out.kept hb0 (HK3.out.trans HK.out (fun _ _ h => h)) (fun h => h)).ev (get_of hkl)
                  have HLS := Lib.hid (last_succ (get_of hkl))
                  generalize l[k] = y at hy HLS
                  have y0 := hy.c0
                  have y5 := hy.c5
                  clear hy
                  by_cases q1 : y.kind = 1
                  · have t1 : (y.kind == 1) = true := by simpa using q1
                    have HB : Hid (Tr.last (l.take (k + 1)) = y.run) := Lib.hid (by rw [HLS.out, if_pos q1])
                    clear q1
                    go_wp2
                    go_roundw
                    case rel => exact ⟨k + 1, by omega, by go_num, by rw [HB.out], HK.out⟩
                    case measure => simp; omega
                  · have t1 : (y.kind == 1) = false := by simpa using q1
                    have HB : Hid (Tr.last (l.take (k + 1)) = Tr.last (l.take k)) := Lib.hid (by rw [HLS.out, if_neg q1])
                    clear q1
                    go_wp2
                    go_roundw
                    case rel => exact ⟨k + 1, by omega, by go_num, by rw [HB.out], HK.out⟩
                    case measure => simp; omega
                · obtain rfl : k = i := by omega
                  rw [HL.out]
                  have hR := HR3.out.same HK.out
                  have g0 := hR.get (j := 0) rfl
                  have g5 := hR.get (j := 5) rfl
                  have gb := hR.lt
                  clear hR
                  have hsum : IntKind.i64.wrap (la + 1) = la + 1 := IntWalk.i64_in _ (by omega)
                  by_cases hrn : x.run = la + 1
                  · have HE : Hid (Tr.poss jobs (l.take k) x = 0) := Lib.hid (by rw [HPL.out, HL.out, if_pos hrn])
                    have hrb : (x.run != la + 1) = false := by simpa using hrn
                    have hrb2 : (x.run == la + 1) = true := by simpa using hrn
                    clear hrn
                    go_wp2
                    go_ret
                    exact ⟨by rw [HE.out]; rfl, HK3.out.trans HK.out (fun _ _ h => h)⟩
                  · have HE : Hid (Tr.poss jobs (l.take k) x = 8) := Lib.hid (by rw [HPL.out, HL.out, if_neg hrn])
                    have hrb : (x.run != la + 1) = true := by simpa using hrn
                    have hrb2 : (x.run == la + 1) = false := by simpa using hrn
                    clear hrn
                    go_wp2
                    go_ret
                    exact ⟨by rw [HE.out]; rfl, HK3.out.trans HK.out (fun _ _ h => h)⟩
            · have k1a : (x.kind == 1) = false := by simpa using k1
              by_cases k2 : x.kind = 2 ∨ x.kind = 3
              · have HPE := Lib.hid (Tr.poss_end HC.out HJB.out HEA.out k2)
                clear k1 hk6b hk6
                obtain ⟨u, hu⟩ : ∃ u, Tr.und (l.take i) = u := ⟨_, rfl⟩
                have HUN := Lib.hid hu
                have kk : ((x.kind == 2) = true) ∨ ((x.kind == 2) = false ∧ (x.kind == 3) = true) := by
                  rcases k2 with k2 | k2
                  · exact .inl (by simpa using k2)
                  · exact .inr ⟨by simp; omega, by simpa using k2⟩
                clear k2
                rcases kk with k2a | ⟨k2a, k3a⟩
                all_goals
                  go_wp2_with (go_at_call 51; fail)
                  refine (HUC.out _ HK3.out).mono ?_
                  rintro e w4 ⟨uv, rfl, hru⟩
                  rw [hu] at hru
                  clear hu
                  have HKU := Lib.hid (HK3.out.trans hru.2.2 (fun _ _ h => h))
                  have HR4 := Lib.hid (HR3.out.same hru.2.2)
                  have HUR := Lib.hid (hru.rows evC_len)
                  obtain ⟨pu, cu, rfl⟩ := hru.val
                  clear hru c0 c1 c2 c3 c4 c5 hb HK3 HR3
                  obtain ⟨m, hm⟩ : ∃ m, u.length = m := ⟨_, rfl⟩
                  have hml : m ≤ 1000000 := by
                    rw [← hm, ← HUN.out, ← Tr.undK_all]
                    have := Tr.undK_len (l.take i) (l.take i).length
                    rw [List.length_take] at this ⊢
                    omega
                  have HM := Lib.hid hm
                  rw [hm] at HUR ⊢
                  clear hm
                  have HN0 : Hid ((u.take 0).any (Tr.sameB x) = false) := Lib.hid rfl
                  go_wp2
                  go_loopw [12] (fun q wr => ∃ k : Nat, k ≤ m ∧ q = .int .i64 k ∧ (u.take k).any (Tr.sameB x) = false ∧ Kept (fun _ => False) w4 wr) (fun q _ => match q with | .int _ x => (m - x).toNat | _ => 0)
                  case atStart => exact ⟨0, Nat.zero_le _, rfl, HN0.out, Kept.refl _ _⟩
                  case round =>
                    obtain ⟨k, hk, rfl, hna, K⟩ := hrel
                    have HK := Lib.hid K
                    have HNA := Lib.hid hna
                    clear K hna
                    by_cases hlt : k < m
                    · have hku : k < u.length := by have := HM.out; omega
                      obtain ⟨bu, ou, cu', hv, -, hbu, hrows⟩ := (HUR.out.same HK.out).pos (by omega)
                      rw [HM.out] at hv
                      injection hv with e1 e2 e3
                      subst e1 e3
                      clear e2
                      have hy := hrows.ev (get_of hku)
                      have HY := Lib.hid (get_of hku)
                      generalize u[k] = y at hy HY
                      have y5 := hy.c5
                      have y2 := hy.c2
                      have y3 := hy.c3
                      have y4 := hy.c4
                      clear hy hrows
                      have hR := HR4.out.same HK.out
                      have g2 := hR.get (j := 2) rfl
                      have g3 := hR.get (j := 3) rfl
                      have g4 := hR.get (j := 4) rfl
                      have g5 := hR.get (j := 5) rfl
                      have gb := hR.lt
                      clear hR
                      have p1 : (0 : Int) ≤ (k : Int) := by omega
                      have p2 : (k : Int) < m := by omega
                      by_cases qrun : y.run = x.run
                      · by_cases qjob : y.job = x.job
                        · by_cases qdue : y.due = x.due
                          · by_cases qatt : y.att = x.att
                            · have trun : (y.run == x.run) = true := by simpa using qrun
                              have tjob : (y.job == x.job) = true := by simpa using qjob
                              have tdue : (y.due == x.due) = true := by simpa using qdue
                              have tatt : (y.att == x.att) = true := by simpa using qatt
                              have HE : Hid (Tr.poss jobs (l.take i) x = 0) := Lib.hid (by rw [HPE.out, if_pos]; rw [HUN.out]; exact any_mem HY.out (by simp [Tr.sameB, qrun, qjob, qdue, qatt]))
                              clear qrun qjob qdue qatt
                              go_wp2
                              go_quiet (fail)
                              go_wp2
                              go_ret
                              exact ⟨by rw [HE.out]; rfl, HKU.out.trans (HK.out.drewN _) (fun _ _ h => h)⟩
                            · have trun : (y.run == x.run) = true := by simpa using qrun
                              have tjob : (y.job == x.job) = true := by simpa using qjob
                              have tdue : (y.due == x.due) = true := by simpa using qdue
                              have tatt : (y.att == x.att) = false := by simpa using qatt
                              have HNX : Hid ((u.take (k + 1)).any (Tr.sameB x) = false) := Lib.hid (by rw [any_succ HY.out, HNA.out]; simp [Tr.sameB, qatt])
                              clear qrun qjob qdue qatt
                              go_wp2
                              go_quiet (fail)
                              go_wp2
                              go_roundw
                              case rel => exact ⟨k + 1, by omega, by go_num, HNX.out, HK.out.drewN _⟩
                              case measure => simp; omega
                          · have trun : (y.run == x.run) = true := by simpa using qrun
                            have tjob : (y.job == x.job) = true := by simpa using qjob
                            have tdue : (y.due == x.due) = false := by simpa using qdue
                            have HNX : Hid ((u.take (k + 1)).any (Tr.sameB x) = false) := Lib.hid (by rw [any_succ HY.out, HNA.out]; simp [Tr.sameB, qdue])
                            clear qrun qjob qdue
                            go_wp2
                            go_quiet (fail)
                            go_wp2
                            go_roundw
                            case rel => exact ⟨k + 1, by omega, by go_num, HNX.out, HK.out.drewN _⟩
                            case measure => simp; omega
                        · have trun : (y.run == x.run) = true := by simpa using qrun
                          have tjob : (y.job == x.job) = false := by simpa using qjob
                          have HNX : Hid ((u.take (k + 1)).any (Tr.sameB x) = false) := Lib.hid (by rw [any_succ HY.out, HNA.out]; simp [Tr.sameB, qjob])
                          clear qrun qjob
                          go_wp2
                          go_quiet (fail)
                          go_wp2
                          go_roundw
                          case rel => exact ⟨k + 1, by omega, by go_num, HNX.out, HK.out.drewN _⟩
                          case measure => simp; omega
                      · have trun : (y.run == x.run) = false := by simpa using qrun
                        have HNX : Hid ((u.take (k + 1)).any (Tr.sameB x) = false) := Lib.hid (by rw [any_succ HY.out, HNA.out]; simp [Tr.sameB, qrun])
                        clear qrun
                        go_wp2
                        go_quiet (fail)
                        go_wp2
                        go_roundw
                        case rel => exact ⟨k + 1, by omega, by go_num, HNX.out, HK.out.drewN _⟩
                        case measure => simp; omega
                    · have HE : Hid (Tr.poss jobs (l.take i) x = 8) := Lib.hid (by
                        rw [HPE.out, if_neg]
                        rw [HUN.out]
                        have := HNA.out
                        rw [List.take_of_length_le (by have := HM.out; omega)] at this
                        rw [this]; decide)
                      go_wp2
                      go_ret
                      exact ⟨by rw [HE.out]; rfl, HKU.out.trans HK.out (fun _ _ h => h)⟩
              · have k2a : (x.kind == 2) = false := by simp; omega
                have k3a : (x.kind == 3) = false := by simp; omega
                have HE : Hid (Tr.poss jobs (l.take i) x = 0) := Lib.hid (Tr.poss_rest HC.out HJB.out HEA.out (by omega) (by omega))
                clear k1 k2 hk6b hk6
                go_wp2
                go_ret
                exact ⟨by rw [HE.out]; rfl, HK3.out⟩
end Go.Proofs.Ytfhlllmicobafaa

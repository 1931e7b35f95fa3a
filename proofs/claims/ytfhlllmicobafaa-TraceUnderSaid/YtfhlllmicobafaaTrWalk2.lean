/- TrWalk2: texts for the statements of this seat: contracts of functions, walks, plain laws. Conditions: none. -/
import Derived.Deep.CutRange
import Derived.Deep.DeepCutAuto
import Derived.Test.YtfhlllmicobafaaTrMap
import Derived.Test.YtfhlllmicobafaaTrChkAll
import Derived.Test.YtfhlllmicobafaaTrPl
set_option linter.all false
/- walk, when nothing is done in its rounds. -/
namespace Go.Proofs.Ytfhlllmicobafaa
open Go.RowKit
open Tr (Ev)

/-- The fields are numbers of 64 bits. -/
def EvW (l : List Ev) : Prop := ∀ x ∈ l, Wf x.run
theorem Wf.le {r : Int} (h : Wf r) : -9223372036854775808 ≤ r ∧ r ≤ 9223372036854775807 := by
  unfold Wf at h
  simp [Lit.wf] at h
  exact h
theorem name_w {S : Nat → Prop} {w w' : World} (K : Kept S w w') : ∃ x, x = w' ∧ Kept S w x := ⟨_, rfl, K⟩
/-- What is under way behind a beginning that is a trace. -/
structure WalkAt (jobs : Int) (l : List Ev) (w0 : World) (B : Nat) (j : Nat) (wr : World) : Prop where
  ok : Tr.Ok jobs (l.take j)
  mp : Mp wr B j (Tr.und (l.take j))
  kept : Kept (fun _ => False) w0 wr
  new : w0.heap.size ≤ B
set_option maxRecDepth 100000 in
set_option maxHeartbeats 4000000 in
theorem walk_c {w : World} {v : Value} {l : List Ev} (h : Evs w v l) (hw : EvW l) (hl : l.length ≤ 1000000) (jobs : Int) (hj0 : 0 ≤ jobs) (hj1 : jobs ≤ 64) :
    Calls Try.prog 47 #[v, .int .i64 jobs, Value.nilFunc] w fun r w' => r = .returned (.tuple #[.int .i64 (Tr.chkFrom jobs [] l).1, .int .i64 (Tr.chkFrom jobs [] l).2]) ∧ Kept (fun _ => False) w w' := by
  have HQ := Lib.hid h
  have HW := Lib.hid hw
  have HMP := Lib.hid (MapOf.made (β := Ev) w Try.prog 3 evR evD)
  obtain ⟨aa, cap, rfl⟩ := h.len
  obtain ⟨n, hn⟩ : ∃ n : Nat, n = l.length := ⟨_, rfl⟩
  rw [← hn] at hl HQ ⊢
  have HN := Lib.hid hn
  clear h hn hw
  have HMK := Lib.hid ((Kept.refl (fun _ => False) w).alloc (.map #[] 0))
  have hmm := @run_makeMap Try.prog
  have hnil : ∀ W : World, Sem.run Try.prog (binOp BinOp.neq 71 Value.nilFunc Value.nilFunc) W = .ok (.bool false) W := fun W => by kernel_rfl
  go_enter Try.func47, Try.ntmps47
  go_wp2
  obtain ⟨B, hB⟩ : ∃ B, w.heap.size = B := ⟨_, rfl⟩
  have HBS := Lib.hid hB
  rw [hB] at HMP ⊢
  clear hB hmm
  have HST : Hid (WalkAt jobs l w B 0 (w.alloc (.map #[] 0))) := Lib.hid ⟨by simpa using Tr.Ok.nil jobs, HMP.out, HMK.out, by rw [HBS.out]; exact Nat.le_refl _⟩
  clear HMP HMK
  generalize w.alloc (.map #[] 0) = w1 at HST ⊢
  go_loopw [9, 18] (fun lv iv wr => ∃ j : Nat, j ≤ n ∧ iv = .int .i64 j ∧ lv = .int .i64 (Tr.last (l.take j)) ∧ WalkAt jobs l w B j wr) (fun _ i _ => match i with | .int _ x => (n - x).toNat | _ => 0)
  case atStart => exact ⟨0, Nat.zero_le _, rfl, rfl, HST.out⟩
  case round =>
    obtain ⟨j, hj, rfl, rfl, hwa⟩ := hrel
    have HA := Lib.hid hwa
    clear hwa
    by_cases hlt : j < n
    · have hjl : j < l.length := by have := HN.out; omega
      obtain ⟨b0, off, cap', hv, hcp, hb0, hrows⟩ := (HQ.out.same HA.out.kept).pos (by have := HN.out; omega)
      rw [← HN.out] at hv
      injection hv with e1 e2 e3
      subst e1 e3
      have HX := Lib.hid (get_of hjl)
      have hrw := HW.out l[j] (List.getElem_mem hjl)
      have hlast := Tr.last_nonneg _ HA.out.ok
      rw [List.length_take] at hlast
      obtain ⟨la, hla⟩ : ∃ la, Tr.last (l.take j) = la := ⟨_, rfl⟩
      have HL := Lib.hid hla
      have hl0 : 0 ≤ la ∧ la ≤ 1000000 := by rw [← hla]; have := HN.out; omega
      rw [hla]
      clear hla hlast
      have hx8 := hrows.ev HX.out
      generalize l[j] = x at HX hrw hx8
      have hrw2 := hrw.le
      obtain ⟨a0, a1, a2, a3, a4, a5, a6, a7⟩ := hx8
      have HROW := Lib.hid (RowAt.new wr 35 (evC x).toArray)
      have HK0 := Lib.hid ((Kept.refl (fun _ => False) wr).alloc (.cells (evC x).toArray 35))
      have HRW := Lib.hid hrows
      have HWF := Lib.hid hrw
      clear hrows e2 hrw
      go_wp2_with (go_at_call 66; fail)
      refine (chk66_c x (by omega) _).mono ?_
      rintro e w2 ⟨rfl, K2⟩
      have HK2 := Lib.hid (HK0.out.trans K2 (fun _ _ h => h))
      have HR2 := Lib.hid (HROW.out.same K2)
      clear K2 HK0 HROW a0 a1 a2 a3 a4 a5 a6 a7
      obtain ⟨X, hX⟩ : ∃ X, wr.heap.size = X := ⟨_, rfl⟩
      have HXS := Lib.hid hX
      rw [hX] at HR2 ⊢
      clear hX
      have HA2 : Hid (WalkAt jobs l w B j w2) := Lib.hid ⟨HA.out.ok, HA.out.mp.same HK2.out, HA.out.kept.trans HK2.out (fun _ _ h => h), HA.out.new⟩
      have c0 := HR2.out.get (j := 0) rfl
      have c1 := HR2.out.get (j := 1) rfl
      have c2 := HR2.out.get (j := 2) rfl
      have c3 := HR2.out.get (j := 3) rfl
      have c4 := HR2.out.get (j := 4) rfl
      have c5 := HR2.out.get (j := 5) rfl
      have c6 := HR2.out.get (j := 6) rfl
      have c7 := HR2.out.get (j := 7) rfl
      have hb := HR2.out.lt
      have hb2 := Nat.lt_of_lt_of_le hb0 HK2.out.size
      obtain ⟨c, hc⟩ : ∃ c, Tr.chk x = c := ⟨_, rfl⟩
      have HC := Lib.hid hc
      rw [hc]
      by_cases hc0 : ¬ c = 0
      · clear hc
        have hcb : (c == 0) = false := by simpa using hc0
        have hcb2 : (c != 0) = true := by simpa using hc0
        have HE : Hid (Tr.chkFrom jobs [] l = ((j : Int), c)) := Lib.hid (Tr.walk_bad HX.out HA.out.ok ((Tr.poss_chk (by rw [HC.out]; exact hc0)).trans HC.out) (by exact hc0))
        go_wp2
        go_ret2
        exact ⟨by rw [HE.out]; rfl, HA2.out.kept⟩
      · obtain rfl := Decidable.not_not.1 hc0
        clear hc hc0
        by_cases hk6 : x.kind = 6
        · have HJB : Hid (x.kind = 6 ∨ x.job < jobs) := Lib.hid (.inl hk6)
          have HK6 := Lib.hid hk6
          rw [hk6] at c0
          clear hk6
          go_upto_region 11 with fail
          go_cut [51] from 39 to 51 (fun s wx => s = .bool (Tr.early (l.take j) x) ∧ Kept (fun _ => False) w2 wx)
          case first =>
            rcases Nat.eq_zero_or_pos j with h0 | h0
            · subst h0
              have HEA : Hid (Tr.early (l.take 0) x = false) := Lib.hid (Tr.early_zero l x)
              go_quiet (fail)
              go_wp2_with fail
              go_meet
              exact ⟨by rw [HEA.out], (Kept.refl _ _).drewN _⟩
            · obtain ⟨k, rfl⟩ : ∃ k, j = k + 1 := ⟨j - 1, by omega⟩
              have hkl : k < l.length := by omega
              have hy := (HRW.out.kept hb0 HK2.out (fun h => h)).ev (get_of hkl)
              have HEA := Lib.hid (Tr.early_succ (x := x) (get_of hkl))
              generalize l[k] = y at hy HEA
              have d1 := hy.c1
              clear hy
              have hj1 : (0 : Int) ≤ (k : Int) := by omega
              have hj2 : (k : Int) < n := by omega
              have hwr : IntKind.i64.wrap (((k + 1 : Nat) : Int) - 1) = k := by rw [show ((k + 1 : Nat) : Int) - 1 = (k : Int) by omega]; exact IntWalk.i64_in _ (by omega)
              by_cases hty : x.t < y.t
              · have HEB : Hid (Tr.early (l.take (k + 1)) x = true) := Lib.hid (by rw [HEA.out]; simpa using hty)
                go_quiet (fail)
                go_wp2_with fail
                go_meet
                exact ⟨by rw [HEB.out], (Kept.refl _ _).drewN _⟩
              · have HEB : Hid (Tr.early (l.take (k + 1)) x = false) := Lib.hid (by rw [HEA.out]; simpa using hty)
                go_quiet (fail)
                go_wp2_with fail
                go_meet
                exact ⟨by rw [HEB.out], (Kept.refl _ _).drewN _⟩
          case rest =>
            obtain ⟨rfl, KX0⟩ := hcut
            obtain ⟨wx, hwx, KX⟩ := name_w KX0
            clear KX0
            subst hwx
            have HR3 := Lib.hid (HR2.out.same KX)
            have HA3 : Hid (WalkAt jobs l w B j wx) := Lib.hid ⟨HA2.out.ok, HA2.out.mp.same KX, HA2.out.kept.trans KX (fun _ _ h => h), HA2.out.new⟩
            clear KX c0 c1 c2 c3 c4 c5 c6 c7 hb hb2
            have c0 := HR3.out.get (j := 0) rfl
            have c1 := HR3.out.get (j := 1) rfl
            have c2 := HR3.out.get (j := 2) rfl
            have c3 := HR3.out.get (j := 3) rfl
            have c4 := HR3.out.get (j := 4) rfl
            have c5 := HR3.out.get (j := 5) rfl
            have c6 := HR3.out.get (j := 6) rfl
            have c7 := HR3.out.get (j := 7) rfl
            have hb := HR3.out.lt
            obtain ⟨ea, hea⟩ : ∃ ea, Tr.early (l.take j) x = ea := ⟨_, rfl⟩
            have HEA := Lib.hid hea
            rw [hea]
            clear hea
            cases ea with
            | true =>
              have HE : Hid (Tr.chkFrom jobs [] l = ((j : Int), 8)) := Lib.hid (Tr.walk_bad HX.out HA.out.ok (Tr.poss_early HC.out HJB.out HEA.out) (by omega))
              go_wp2
              go_ret2
              exact ⟨by rw [HE.out]; rfl, HA3.out.kept⟩
            | false =>
              have hk6' := HK6.out
              have HNX : Hid (WalkAt jobs l w B (j + 1) wx) := Lib.hid (by
                obtain ⟨g1, g2, g3⟩ := Tr.walk_good HX.out HA.out.ok (Tr.poss_rest HC.out HJB.out HEA.out (by omega) (by omega))
                refine ⟨g1, ?_, HA3.out.kept, HA3.out.new⟩
                rw [g3]
                unfold Tr.ustep
                rw [if_neg (by omega), if_neg (by omega)]
                exact HA3.out.mp.mono (Nat.le_succ _))
              have HLN : Hid (Tr.last (l.take (j + 1)) = la) := Lib.hid (by
                rw [(Tr.walk_good HX.out HA.out.ok (Tr.poss_rest HC.out HJB.out HEA.out (by omega) (by omega))).2.1]
                unfold Tr.lstep
                rw [if_neg (by omega), HL.out])
              rw [hk6'] at c0
              clear hk6'
              go_wp2
              go_roundw
              case rel => exact ⟨j + 1, by omega, by go_num, by rw [HLN.out], HNX.out⟩
              case measure => simp; omega
        · by_cases hjb : jobs ≤ x.job
          · have hk6b : (x.kind == 6) = false := by simpa using hk6
            have hk6c : (x.kind != 6) = true := by simpa using hk6
            have HE : Hid (Tr.chkFrom jobs [] l = ((j : Int), 3)) := Lib.hid (Tr.walk_bad HX.out HA.out.ok (Tr.poss_job HC.out hk6 hjb) (by omega))
            go_wp2
            go_ret2
            exact ⟨by rw [HE.out]; rfl, HA2.out.kept⟩
          · have HJB : Hid (x.kind = 6 ∨ x.job < jobs) := Lib.hid (.inr (by omega))
            have hjb2 : ¬ (jobs ≤ x.job) := hjb
            have hk6b : (x.kind == 6) = false := by simpa using hk6
            have hk6c : (x.kind != 6) = true := by simpa using hk6
            go_upto_region 11 with fail
            go_cut [51] from 39 to 51 (fun s wx => s = .bool (Tr.early (l.take j) x) ∧ Kept (fun _ => False) w2 wx)
            case first =>
              rcases Nat.eq_zero_or_pos j with h0 | h0
              · subst h0
                have HEA : Hid (Tr.early (l.take 0) x = false) := Lib.hid (Tr.early_zero l x)
                go_quiet (fail)
                go_wp2_with fail
                go_meet
                exact ⟨by rw [HEA.out], (Kept.refl _ _).drewN _⟩
              · obtain ⟨k, rfl⟩ : ∃ k, j = k + 1 := ⟨j - 1, by omega⟩
                have hkl : k < l.length := by omega
                have hy := (HRW.out.kept hb0 HK2.out (fun h => h)).ev (get_of hkl)
                have HEA := Lib.hid (Tr.early_succ (x := x) (get_of hkl))
                generalize l[k] = y at hy HEA
                have d1 := hy.c1
                clear hy
                have hj1 : (0 : Int) ≤ (k : Int) := by omega
                have hj2 : (k : Int) < n := by omega
                have hwr : IntKind.i64.wrap (((k + 1 : Nat) : Int) - 1) = k := by rw [show ((k + 1 : Nat) : Int) - 1 = (k : Int) by omega]; exact IntWalk.i64_in _ (by omega)
                by_cases hty : x.t < y.t
                · have HEB : Hid (Tr.early (l.take (k + 1)) x = true) := Lib.hid (by rw [HEA.out]; simpa using hty)
                  go_quiet (fail)
                  go_wp2_with fail
                  go_meet
                  exact ⟨by rw [HEB.out], (Kept.refl _ _).drewN _⟩
                · have HEB : Hid (Tr.early (l.take (k + 1)) x = false) := Lib.hid (by rw [HEA.out]; simpa using hty)
                  go_quiet (fail)
                  go_wp2_with fail
                  go_meet
                  exact ⟨by rw [HEB.out], (Kept.refl _ _).drewN _⟩
            case rest =>
              obtain ⟨rfl, KX0⟩ := hcut
              obtain ⟨wx, hwx, KX⟩ := name_w KX0
              clear KX0
              subst hwx
              have HR3 := Lib.hid (HR2.out.same KX)
              have HA3 : Hid (WalkAt jobs l w B j wx) := Lib.hid ⟨HA2.out.ok, HA2.out.mp.same KX, HA2.out.kept.trans KX (fun _ _ h => h), HA2.out.new⟩
              clear KX c0 c1 c2 c3 c4 c5 c6 c7 hb hb2
              have c0 := HR3.out.get (j := 0) rfl
              have c1 := HR3.out.get (j := 1) rfl
              have c2 := HR3.out.get (j := 2) rfl
              have c3 := HR3.out.get (j := 3) rfl
              have c4 := HR3.out.get (j := 4) rfl
              have c5 := HR3.out.get (j := 5) rfl
              have c6 := HR3.out.get (j := 6) rfl
              have c7 := HR3.out.get (j := 7) rfl
              have hb := HR3.out.lt
              obtain ⟨ea, hea⟩ : ∃ ea, Tr.early (l.take j) x = ea := ⟨_, rfl⟩
              have HEA := Lib.hid hea
              rw [hea]
              clear hea
              cases ea with
              | true =>
                have HE : Hid (Tr.chkFrom jobs [] l = ((j : Int), 8)) := Lib.hid (Tr.walk_bad HX.out HA.out.ok (Tr.poss_early HC.out HJB.out HEA.out) (by omega))
                go_wp2
                go_ret2
                exact ⟨by rw [HE.out]; rfl, HA3.out.kept⟩
              | false =>
                by_cases k1 : x.kind = 1
                · have K1 := Lib.hid k1
                  have HPL := Lib.hid (Tr.poss_launch HC.out HJB.out HEA.out k1)
                  have k1a : (x.kind == 1) = true := by simpa using k1
                  clear k1 hk6b hk6c hk6
                  have hsum : IntKind.i64.wrap (la + 1) = la + 1 := IntWalk.i64_in _ (by omega)
                  by_cases hrn : x.run = la + 1
                  · have HRN := Lib.hid hrn
                    have hp0 : Tr.poss jobs (l.take j) x = 0 := by rw [HPL.out, HL.out, if_pos hrn]
                    have HP0 := Lib.hid hp0
                    have hrb : (x.run != la + 1) = false := by simpa using hrn
                    have hrb2 : (x.run == la + 1) = true := by simpa using hrn
                    clear hp0 hrn
                    have hx0 := hrw2
                    go_wp2_with (at_mapUpdate; refine wpList_store_of evCode rfl _ _ _ 70 rfl 35 Try.underlying3 Try.underlying70 B j _ rfl HA3.out.mp (by unfold maxLen; omega) x.run rfl HWF.out x rfl ?_; intro w5 HM5 K5; have HM5' := Lib.hid HM5; have HK5 := Lib.hid K5; clear HM5 K5)
                    have HNX : Hid (WalkAt jobs l w B (j + 1) w5) := Lib.hid (by
                      obtain ⟨g1, g2, g3⟩ := Tr.walk_good HX.out HA.out.ok HP0.out
                      refine ⟨g1, ?_, HA3.out.kept.trans HK5.out (fun i hi e => by have := HA3.out.new; omega), HA3.out.new⟩
                      rw [g3]
                      unfold Tr.ustep
                      rw [if_pos K1.out]
                      exact Mp.snoc HM5'.out (fun e he => by
                        have := (Tr.last_nonneg _ HA.out.ok).2.2.2 e he
                        have h1 := HRN.out
                        have h2 := HL.out
                        omega))
                    have HLN : Hid (Tr.last (l.take (j + 1)) = x.run) := Lib.hid (by
                      rw [(Tr.walk_good HX.out HA.out.ok HP0.out).2.1]
                      unfold Tr.lstep
                      rw [if_pos K1.out])
                    go_wp2
                    go_roundw
                    case rel => exact ⟨j + 1, by omega, by go_num, by rw [HLN.out], HNX.out⟩
                    case measure => simp; omega
                  · have hrb : (x.run != la + 1) = true := by simpa using hrn
                    have hrb2 : (x.run == la + 1) = false := by simpa using hrn
                    have HE : Hid (Tr.chkFrom jobs [] l = ((j : Int), 8)) := Lib.hid (Tr.walk_bad HX.out HA.out.ok (by rw [HPL.out, HL.out, if_neg hrn]) (by omega))
                    go_wp2
                    go_ret2
                    exact ⟨by rw [HE.out]; rfl, HA3.out.kept⟩
                · by_cases k2 : x.kind = 2 ∨ x.kind = 3
                  · have K2 := Lib.hid k2
                    have K1 := Lib.hid k1
                    have HPE := Lib.hid (Tr.poss_end HC.out HJB.out HEA.out k2)
                    have HPW := Lib.hid (Tr.last_nonneg _ HA.out.ok).2.2.1
                    clear k1 hk6b hk6c hk6
                    obtain ⟨kd, hkd⟩ : ∃ kd, x.kind = kd := ⟨_, rfl⟩
                    rw [hkd] at c0 k2
                    clear hkd
                    cases hlk : Tr.look (Tr.und (l.take j)) x.run with
                    | none =>
                      have HLK := Lib.hid hlk
                      have HPN : Hid (Tr.poss jobs (l.take j) x = 8) := Lib.hid (by rw [HPE.out, if_neg (by rw [Tr.any_none HPW.out HLK.out]; decide)])
                      clear hlk
                      rcases k2 with rfl | rfl
                      all_goals
                        have HE : Hid (Tr.chkFrom jobs [] l = ((j : Int), 8)) := Lib.hid (Tr.walk_bad HX.out HA.out.ok HPN.out (by omega))
                        go_wp2_with (at_lookup; refine wpList_look_none evCode rfl _ _ 70 rfl 35 Try.underlying3 Try.underlying70 ev0 (zero35 _) B j _ rfl HA3.out.mp x.run rfl HWF.out HLK.out ?_)
                        go_ret2
                        exact ⟨by rw [HE.out]; rfl, HA3.out.kept.alloc _⟩
                    | some y =>
                      have HLK := Lib.hid hlk
                      have HAN := Lib.hid (Tr.any_some HPW.out hlk)
                      clear hlk
                      by_cases hy1 : y.job = x.job
                      · by_cases hy2 : y.due = x.due
                        · by_cases hy3 : y.att = x.att
                          · have HP0 : Hid (Tr.poss jobs (l.take j) x = 0) := Lib.hid (by rw [HPE.out, if_pos (by rw [HAN.out]; simp [hy1, hy2, hy3])])
                            have g1 : (y.job != x.job) = false := by simpa using hy1
                            have g2 : (y.due != x.due) = false := by simpa using hy2
                            have g3 : (y.att != x.att) = false := by simpa using hy3
                            have g1' : (y.job == x.job) = true := by simpa using hy1
                            have g2' : (y.due == x.due) = true := by simpa using hy2
                            have g3' : (y.att == x.att) = true := by simpa using hy3
                            clear hy1 hy2 hy3
                            have HLN : Hid (Tr.last (l.take (j + 1)) = la) := Lib.hid (by
                              rw [(Tr.walk_good HX.out HA.out.ok HP0.out).2.1]
                              unfold Tr.lstep
                              rw [if_neg K1.out, HL.out])
                            rcases k2 with rfl | rfl
                            all_goals
                              go_wp2_with (first
                                | (at_lookup; refine wpList_look_some evCode rfl _ _ 70 rfl 35 Try.underlying3 Try.underlying70 ev0 (zero35 _) B j _ rfl HA3.out.mp x.run rfl HWF.out y HLK.out ?_)
                                | (at_delete; refine wpList_delete_of rfl _ _ 70 rfl 35 Try.underlying3 Try.underlying70 B j _ rfl (HA3.out.mp.same ((Kept.refl _ _).alloc _)) x.run rfl HWF.out ?_; intro w5 HM5 K5; have HM5' := Lib.hid HM5; have HK5 := Lib.hid K5; clear HM5 K5))
                              have HNX : Hid (WalkAt jobs l w B (j + 1) w5) := Lib.hid (by
                                obtain ⟨g1, g2, g3⟩ := Tr.walk_good HX.out HA.out.ok HP0.out
                                refine ⟨g1, ?_, (HA3.out.kept.alloc _).trans HK5.out (fun i hi e => by have := HA3.out.new; omega), HA3.out.new⟩
                                rw [g3]
                                unfold Tr.ustep
                                rw [if_neg K1.out, if_pos K2.out]
                                exact (Mp.filter HM5'.out).mono (Nat.le_succ _))
                              go_wp2
                              go_roundw
                              case rel => exact ⟨j + 1, by omega, by go_num, by rw [HLN.out], HNX.out⟩
                              case measure => simp; omega
                          · have HPN : Hid (Tr.poss jobs (l.take j) x = 8) := Lib.hid (by rw [HPE.out, if_neg (by rw [HAN.out]; simp [hy3])])
                            have g1 : (y.job != x.job) = false := by simpa using hy1
                            have g2 : (y.due != x.due) = false := by simpa using hy2
                            have g3 : (y.att != x.att) = true := by simpa using hy3
                            have g1' : (y.job == x.job) = true := by simpa using hy1
                            have g2' : (y.due == x.due) = true := by simpa using hy2
                            have g3' : (y.att == x.att) = false := by simpa using hy3
                            clear hy1 hy2 hy3
                            rcases k2 with rfl | rfl
                            all_goals
                              have HE : Hid (Tr.chkFrom jobs [] l = ((j : Int), 8)) := Lib.hid (Tr.walk_bad HX.out HA.out.ok HPN.out (by omega))
                              go_wp2_with (at_lookup; refine wpList_look_some evCode rfl _ _ 70 rfl 35 Try.underlying3 Try.underlying70 ev0 (zero35 _) B j _ rfl HA3.out.mp x.run rfl HWF.out y HLK.out ?_)
                              go_ret2
                              exact ⟨by rw [HE.out]; rfl, HA3.out.kept.alloc _⟩
                        · have HPN : Hid (Tr.poss jobs (l.take j) x = 8) := Lib.hid (by rw [HPE.out, if_neg (by rw [HAN.out]; simp [hy2])])
                          have g1 : (y.job != x.job) = false := by simpa using hy1
                          have g2 : (y.due != x.due) = true := by simpa using hy2
                          have g1' : (y.job == x.job) = true := by simpa using hy1
                          have g2' : (y.due == x.due) = false := by simpa using hy2
                          clear hy1 hy2
                          rcases k2 with rfl | rfl
                          all_goals
                            have HE : Hid (Tr.chkFrom jobs [] l = ((j : Int), 8)) := Lib.hid (Tr.walk_bad HX.out HA.out.ok HPN.out (by omega))
                            go_wp2_with (at_lookup; refine wpList_look_some evCode rfl _ _ 70 rfl 35 Try.underlying3 Try.underlying70 ev0 (zero35 _) B j _ rfl HA3.out.mp x.run rfl HWF.out y HLK.out ?_)
                            go_ret2
                            exact ⟨by rw [HE.out]; rfl, HA3.out.kept.alloc _⟩
                      · have HPN : Hid (Tr.poss jobs (l.take j) x = 8) := Lib.hid (by rw [HPE.out, if_neg (by rw [HAN.out]; simp [hy1])])
                        have g1 : (y.job != x.job) = true := by simpa using hy1
                        have g1' : (y.job == x.job) = false := by simpa using hy1
                        clear hy1
                        rcases k2 with rfl | rfl
                        all_goals
                          have HE : Hid (Tr.chkFrom jobs [] l = ((j : Int), 8)) := Lib.hid (Tr.walk_bad HX.out HA.out.ok HPN.out (by omega))
                          go_wp2_with (at_lookup; refine wpList_look_some evCode rfl _ _ 70 rfl 35 Try.underlying3 Try.underlying70 ev0 (zero35 _) B j _ rfl HA3.out.mp x.run rfl HWF.out y HLK.out ?_)
                          go_ret2
                          exact ⟨by rw [HE.out]; rfl, HA3.out.kept.alloc _⟩
                  · have k2a : (x.kind == 2) = false := by simp; omega
                    have k3a : (x.kind == 3) = false := by simp; omega
                    have k1a : (x.kind == 1) = false := by simpa using k1
                    have HNX : Hid (WalkAt jobs l w B (j + 1) wx) := Lib.hid (by
                      obtain ⟨g1, g2, g3⟩ := Tr.walk_good HX.out HA.out.ok (Tr.poss_rest HC.out HJB.out HEA.out (by omega) (by omega))
                      refine ⟨g1, ?_, HA3.out.kept, HA3.out.new⟩
                      rw [g3]
                      unfold Tr.ustep
                      rw [if_neg (by omega), if_neg (by omega)]
                      exact HA3.out.mp.mono (Nat.le_succ _))
                    have HLN : Hid (Tr.last (l.take (j + 1)) = la) := Lib.hid (by
                      rw [(Tr.walk_good HX.out HA.out.ok (Tr.poss_rest HC.out HJB.out HEA.out (by omega) (by omega))).2.1]
                      unfold Tr.lstep
                      rw [if_neg (by omega), HL.out])
                    clear k1 k2 hk6b hk6c hk6
                    go_wp2
                    go_roundw
                    case rel => exact ⟨j + 1, by omega, by go_num, by rw [HLN.out], HNX.out⟩
                    case measure => simp; omega
    · obtain rfl : j = n := by omega
      have HE : Hid (Tr.chkFrom jobs [] l = (0, 0)) := Lib.hid (Tr.chkFrom_of_ok (by
        have := HA.out.ok
        rwa [List.take_of_length_le (by have := HN.out; omega)] at this))
      go_wp2
      go_ret2
      exact ⟨by rw [HE.out]; rfl, HA.out.kept⟩
end Go.Proofs.Ytfhlllmicobafaa

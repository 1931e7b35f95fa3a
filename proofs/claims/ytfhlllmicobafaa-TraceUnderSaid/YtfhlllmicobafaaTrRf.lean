/- TrRf: texts for the statements of this seat: contracts of functions, walks, plain laws. Conditions: none. -/
import Derived.Test.YtfhlllmicobafaaTrRefs
import Derived.Test.YtfhlllmicobafaaTrMost
import Derived.Test.YtfhlllmicobafaaTrEnds
set_option linter.all false
/- Delay, Ends, Most of the reference. -/
namespace Go.Proofs.Ytfhlllmicobafaa
open Go.RowKit
open Tr (Ev ofB)

set_option maxRecDepth 100000 in
set_option maxHeartbeats 4000000 in
theorem rdelay_c {w : World} {v : Value} {l : List Ev} (h : Evs w v l) (hw : EvW l) (hl : l.length ≤ 100000) (job : Int) :
    Calls Try.prog 27 #[v, .int .i64 job] w (NumPost w (wrongE l job (-1) 63) (dfold (picks isFirst job l l.length))) := by
  have HC := Lib.hid (wrong_c h hw (by omega) job (-1) 63)
  have HQ := Lib.hid h
  obtain ⟨aa, cap, rfl⟩ := h.len
  obtain ⟨N, hN⟩ : ∃ N : Nat, N = l.length := ⟨_, rfl⟩
  obtain ⟨c, hc⟩ : ∃ c, wrongE l job (-1) 63 = c := ⟨_, rfl⟩
  have HWE := Lib.hid hc
  rw [hc] at HC ⊢
  rw [← hN] at hl HC HQ ⊢
  have HN := Lib.hid hN
  clear h hN hw hc
  by_cases hc0 : ¬ c = 0
  · have hb1 : (c != 0) = true := by simpa using hc0
    have hb2 : (c == 0) = false := by simpa using hc0
    have HZ : Hid (∀ w1, Kept (fun _ => False) w w1 → NumPost w c (dfold (picks isFirst job l N)) (.returned (.tuple #[.int .i64 0, .int .i64 c])) w1) := Lib.hid fun w1 K => ⟨by rw [if_neg hc0], K⟩
    go_enter Try.func27, Try.ntmps27
    go_wp2_with (go_at_call 50; fail)
    refine HC.out.mono ?_
    rintro e w1 ⟨rfl, K1⟩
    have HF := Lib.hid (HZ.out _ K1)
    clear K1 hc0
    go_wp2
    go_ret2
    exact HF.out
  · obtain rfl := Decidable.not_not.1 hc0
    clear hc0
    have HOK := Lib.hid (wrong_ok HWE.out).1
    go_enter Try.func27, Try.ntmps27
    go_wp2_with (go_at_call 50; fail)
    refine HC.out.mono ?_
    rintro e w1 ⟨rfl, K1⟩
    have HK1 := Lib.hid K1
    clear K1
    go_wp2
    go_loopw [7, 8] (fun s i wr => ∃ j : Nat, j ≤ N ∧ i = .int .i64 j ∧ s = .int .i64 (dfold (picks isFirst job l j)) ∧ Kept (fun _ => False) w1 wr) (fun _ i _ => match i with | .int _ x => (N - x).toNat | _ => 0)
    case atStart => exact ⟨0, Nat.zero_le _, rfl, rfl, Kept.refl _ _⟩
    case round =>
      obtain ⟨j, hj, rfl, rfl, K⟩ := hrel
      have HK := Lib.hid K
      clear K
      have hm := dfold_bd HOK.out (picks_prefix isFirst job l (show j ≤ l.length by have := HN.out; omega))
      obtain ⟨m, hme⟩ : ∃ m, dfold (picks isFirst job l j) = m := ⟨_, rfl⟩
      have HM := Lib.hid hme
      rw [hme] at hm ⊢
      clear hme
      by_cases hlt : j < N
      · obtain ⟨b0, off, cap', hv, hcp, hb0, hrows⟩ := ((HQ.out.same HK1.out).same HK.out).pos (by have := HN.out; omega)
        rw [← HN.out] at hv
        injection hv with e1 e2 e3
        subst e1 e3
        have hjl : j < l.length := by have := HN.out; omega
        have HX := Lib.hid (get_of hjl)
        have HRW := Lib.hid hrows
        have hx8 := hrows.ev HX.out
        have hck := Tr.chk_ok (HOK.out.each (List.mem_of_getElem? HX.out))
        generalize l[j] = x at HX hx8 hck
        have i1 : (0 : Int) ≤ (j : Int) := by omega
        have i2 : (j : Int) < N := by omega
        have HCK := Lib.hid hck
        clear hrows e2 hck
        by_cases k1 : x.kind = 1
        · have t1 : (x.kind == 1) = true := by simpa using k1
          have hdu : 0 ≤ x.due ∧ x.due ≤ x.t ∧ x.t ≤ 253402300799 := by
            have h1 := HCK.out.2.2.2.2
            have h2 := HCK.out
            simp [Tr.fits, k1] at h1
            omega
          by_cases k2 : x.att = 1
          · have t2 : (x.att == 1) = true := by simpa using k2
            have HIS : Hid (isFirst x = true) := Lib.hid (by simp [isFirst, k1, k2])
            clear k1 k2
            obtain ⟨b, hb⟩ : ∃ b, ofB job x = b := ⟨_, rfl⟩
            have HB := Lib.hid hb
            obtain ⟨a0, a1, a2, a3, a4, a5, a6, a7⟩ := hx8
            have HOF := Lib.hid (rof_b b x job wr hb)
            clear hb
            cases b with
            | true =>
              have hnx : dfold (picks isFirst job l (j + 1)) = max m (x.t - x.due) := by rw [picks_yes HX.out HB.out HIS.out, ← HM.out]; simp [dfold]
              obtain ⟨q, hq⟩ : ∃ q, max m (x.t - x.due) = q := ⟨_, rfl⟩
              have HQ2 := Lib.hid hq
              rw [hq] at hnx
              have HNX := Lib.hid hnx
              clear hq hnx
              go_wp2_with (go_at_call 55; fail)
              refine HOF.out.mono ?_
              rintro e w3 ⟨rfl, K3⟩
              have HK3 := Lib.hid (HK.out.trans K3 (fun _ _ h => h))
              obtain ⟨a0, a1, a2, a3, a4, a5, a6, a7⟩ := (HRW.out.kept hb0 K3 (fun q => q)).ev HX.out
              have hsm : IntKind.i64.wrap (x.t - x.due) = x.t - x.due := IntWalk.i64_in _ (by omega)
              clear K3
              by_cases hmx : m < x.t - x.due
              · have hq2 : q = x.t - x.due := by have := HQ2.out; omega
                have HQ3 := Lib.hid hq2
                clear hq2
                go_wp2
                go_quiet (fail)
                go_wp2
                go_roundw
                case rel => exact ⟨j + 1, by omega, by go_num, by rw [HNX.out, HQ3.out]; congr 1; omega, HK3.out.drewN _⟩
                case measure => simp; omega
              · have hq2 : q = m := by have := HQ2.out; omega
                have HQ3 := Lib.hid hq2
                clear hq2
                go_wp2
                go_quiet (fail)
                go_wp2
                go_roundw
                case rel => exact ⟨j + 1, by omega, by go_num, by rw [HNX.out, HQ3.out]; congr 1; omega, HK3.out.drewN _⟩
                case measure => simp; omega
            | false =>
              have HNX : Hid (dfold (picks isFirst job l (j + 1)) = m) := Lib.hid (by rw [picks_no HX.out (fun q => by rw [HB.out] at q; cases q.1), HM.out])
              go_wp2_with (go_at_call 55; fail)
              refine HOF.out.mono ?_
              rintro e w3 ⟨rfl, K3⟩
              have HK3 := Lib.hid (HK.out.trans K3 (fun _ _ h => h))
              clear K3 a0 a1 a2 a3 a4 a5 a6 a7
              go_wp2
              go_roundw
              case rel => exact ⟨j + 1, by omega, by go_num, by rw [HNX.out], HK3.out⟩
              case measure => simp; omega
          · have t2 : (x.att == 1) = false := by simpa using k2
            have HNX : Hid (dfold (picks isFirst job l (j + 1)) = m) := Lib.hid (by rw [picks_no HX.out (fun q => by have := q.2; simp [isFirst, k2] at this), HM.out])
            clear k1 k2
            have a0 := hx8.c0
            have a4 := hx8.c4
            clear hx8
            go_wp2
            go_roundw
            case rel => exact ⟨j + 1, by omega, by go_num, by rw [HNX.out], HK.out⟩
            case measure => simp; omega
        · have t1 : (x.kind == 1) = false := by simpa using k1
          have HNX : Hid (dfold (picks isFirst job l (j + 1)) = m) := Lib.hid (by rw [picks_no HX.out (fun q => by have := q.2; simp [isFirst, k1] at this), HM.out])
          clear k1
          have a0 := hx8.c0
          clear hx8
          go_wp2
          go_roundw
          case rel => exact ⟨j + 1, by omega, by go_num, by rw [HNX.out], HK.out⟩
          case measure => simp; omega
      · obtain rfl : j = N := by omega
        have HF : Hid (NumPost w 0 (dfold (picks isFirst job l j)) (.returned (.tuple #[.int .i64 m, .int .i64 0])) wr) := Lib.hid ⟨by rw [if_pos rfl, HM.out], HK1.out.trans HK.out (fun _ _ h => h)⟩
        go_wp2
        go_ret2
        exact HF.out
end Go.Proofs.Ytfhlllmicobafaa
/- Most of the reference. -/
namespace Go.Proofs.Ytfhlllmicobafaa
open Go.RowKit
open Tr (Ev ofB)

theorem mf_eq (job : Int) (l : List Ev) : mf (picks isEnd job l l.length) = Tr.mfold job l := by
  have h1 : mf (picks isEnd job l l.length) = ((picks isEnd job l l.length).map (·.2)).foldl mst (0, 0) := by unfold mf; rw [List.foldl_map]
  rw [h1, picks_all, List.foldl_filter]
  unfold Tr.mfold
  congr 1

set_option maxRecDepth 100000 in
set_option maxHeartbeats 4000000 in
theorem rmost_c {w : World} {v : Value} {l : List Ev} (h : Evs w v l) (hw : EvW l) (hl : l.length ≤ 100000) (job : Int) :
    Calls Try.prog 18 #[v, .int .i64 job] w (NumPost w (wrongE l job (-1) 63) ((mf (picks isEnd job l l.length)).2)) := by
  have HC := Lib.hid (wrong_c h hw (by omega) job (-1) 63)
  have HQ := Lib.hid h
  have HUN := Lib.hid (fun W (K : Kept (fun _ => False) w W) k (hk : k ≤ l.length) => under_c (h.same K) (by omega) k hk)
  have HE0 := Lib.hid (mf_eq job l)
  obtain ⟨aa, cap, rfl⟩ := h.len
  obtain ⟨N, hN⟩ : ∃ N : Nat, N = l.length := ⟨_, rfl⟩
  obtain ⟨c, hc⟩ : ∃ c, wrongE l job (-1) 63 = c := ⟨_, rfl⟩
  have HWE := Lib.hid hc
  rw [hc] at HC ⊢
  rw [← hN] at hl HC HQ HUN HE0 ⊢
  have HN := Lib.hid hN
  clear h hN hw hc
  by_cases hc0 : ¬ c = 0
  · have hb1 : (c != 0) = true := by simpa using hc0
    have hb2 : (c == 0) = false := by simpa using hc0
    have HZ : Hid (∀ w1, Kept (fun _ => False) w w1 → NumPost w c ((mf (picks isEnd job l N)).2) (.returned (.tuple #[.int .i64 0, .int .i64 c])) w1) := Lib.hid fun w1 K => ⟨by rw [if_neg hc0], K⟩
    go_enter Try.func18, Try.ntmps18
    go_wp2_with (go_at_call 50; fail)
    refine HC.out.mono ?_
    rintro e w1 ⟨rfl, K1⟩
    have HF := Lib.hid (HZ.out _ K1)
    clear K1 hc0
    go_wp2
    go_ret2
    exact HF.out
  · obtain rfl := Decidable.not_not.1 hc0
    clear hc0
    have HOK := Lib.hid (wrong_ok HWE.out).1
    go_enter Try.func18, Try.ntmps18
    go_wp2_with (go_at_call 50; fail)
    refine HC.out.mono ?_
    rintro e w1 ⟨rfl, K1⟩
    have HK1 := Lib.hid K1
    clear K1
    have HE : Hid ((mf (picks isEnd job l N)).2 = Tr.mref job l (N + 1)) := Lib.hid (by rw [HE0.out, (Tr.most_eq job l HOK.out).2, HN.out])
    go_wp2
    go_loopw [7, 8] (fun s i wr => ∃ j : Nat, j ≤ N + 1 ∧ i = .int .i64 j ∧ s = .int .i64 (Tr.mref job l j) ∧ Kept (fun _ => False) w1 wr) (fun _ i _ => match i with | .int _ x => (N + 1 - x).toNat | _ => 0)
    case atStart => exact ⟨0, Nat.zero_le _, rfl, rfl, Kept.refl _ _⟩
    case round =>
      obtain ⟨j, hj, rfl, rfl, K⟩ := hrel
      have HK := Lib.hid K
      have HKA := Lib.hid (HK1.out.trans K (fun _ _ h => h))
      clear K
      obtain ⟨m, hme⟩ : ∃ m, Tr.mref job l j = m := ⟨_, rfl⟩
      have HM := Lib.hid hme
      have hm0 := Tr.mref_nonneg job l j
      rw [hme] at hm0 ⊢
      clear hme
      by_cases hlt : j ≤ N
      · have i1 : (0 : Int) ≤ (j : Int) := by omega
        have i2 : (j : Int) ≤ N := by omega
        go_wp2_with (go_at_call 51; fail)
        refine (HUN.out _ HKA.out j hlt).mono ?_
        rintro e w2 ⟨u, rfl, hu⟩
        have hrw := hu.rows evC_len
        have HKB := Lib.hid (HKA.out.trans hu.2.2 (fun _ _ h => h))
        have HKC := Lib.hid (HK.out.trans hu.2.2 (fun _ _ h => h))
        have HMS : Hid (Tr.mref job l (j + 1) = max m (Tr.cnt job (Tr.und (l.take j)))) := Lib.hid (by rw [← HM.out]; rfl)
        have hul : (Tr.und (l.take j)).length ≤ j := by
          have := und_len (l.take j)
          rw [List.length_take] at this
          omega
        generalize Tr.und (l.take j) = us at hu hrw HMS hul
        have HU := Lib.hid hrw
        obtain ⟨pu, cu, rfl⟩ := hu.val
        obtain ⟨n, hn⟩ : ∃ n, us.length = n := ⟨_, rfl⟩
        have HNN := Lib.hid hn
        rw [hn] at hul ⊢
        have hun := HU.out
        clear hu hrw hn
        go_wp2
        go_loopw [10, 11] (fun s i wy => ∃ k : Nat, k ≤ n ∧ i = .int .i64 k ∧ s = .int .i64 (Tr.cnt job (us.take k) : Nat) ∧ Kept (fun _ => False) w2 wy) (fun _ i _ => match i with | .int _ x => (n - x).toNat | _ => 0)
        case atStart => exact ⟨0, Nat.zero_le _, rfl, rfl, Kept.refl _ _⟩
        case round =>
          obtain ⟨k, hk, rfl, rfl, K⟩ := hrel
          have HK2 := Lib.hid K
          clear K
          obtain ⟨q, hq⟩ : ∃ q, Tr.cnt job (us.take k) = q := ⟨_, rfl⟩
          have HQQ := Lib.hid hq
          have hql : q ≤ k := by
            have := List.countP_le_length (p := ofB job) (l := us.take k)
            rw [List.length_take] at this
            unfold Tr.cnt at hq
            omega
          rw [hq]
          clear hq
          by_cases hlt2 : k < n
          · obtain ⟨b0, off, cap', hv, hcp, hb0, hrows⟩ := (HU.out.same HK2.out).pos (by have := HNN.out; omega)
            rw [HNN.out] at hv
            injection hv with e1 e2 e3
            subst e1 e3
            have hkl : k < us.length := by have := HNN.out; omega
            have HX := Lib.hid (get_of hkl)
            have hx8 := hrows.ev HX.out
            generalize us[k] = x at HX hx8
            have j1 : (0 : Int) ≤ (k : Int) := by omega
            have j2 : (k : Int) < n := by omega
            clear hrows e2 hun
            obtain ⟨b, hb⟩ : ∃ b, ofB job x = b := ⟨_, rfl⟩
            have HNX : Hid (Tr.cnt job (us.take (k + 1)) = q + (if b = true then 1 else 0)) := Lib.hid (by
              rw [Tr.take_snoc' HX.out, ← HQQ.out]
              unfold Tr.cnt
              rw [List.countP_append, List.countP_singleton, hb])
            obtain ⟨a0, a1, a2, a3, a4, a5, a6, a7⟩ := hx8
            have HOF := Lib.hid (rof_b b x job wr hb)
            clear hb
            cases b with
            | true =>
              go_wp2_with (go_at_call 55; fail)
              refine HOF.out.mono ?_
              rintro e w3 ⟨rfl, K3⟩
              have HK3 := Lib.hid (HK2.out.trans K3 (fun _ _ h => h))
              clear K3 a0 a1 a2 a3 a4 a5 a6 a7
              go_wp2
              go_roundw
              case rel => exact ⟨k + 1, by omega, by go_num, by rw [HNX.out]; simp, HK3.out⟩
              case measure => simp; omega
            | false =>
              go_wp2_with (go_at_call 55; fail)
              refine HOF.out.mono ?_
              rintro e w3 ⟨rfl, K3⟩
              have HK3 := Lib.hid (HK2.out.trans K3 (fun _ _ h => h))
              clear K3 a0 a1 a2 a3 a4 a5 a6 a7
              go_wp2
              go_roundw
              case rel => exact ⟨k + 1, by omega, by go_num, by rw [HNX.out]; simp, HK3.out⟩
              case measure => simp; omega
          · obtain rfl : k = n := by omega
            have HCQ : Hid (Tr.mref job l (j + 1) = max m (q : Int)) := Lib.hid (by rw [HMS.out, ← HQQ.out, List.take_of_length_le (by have := HNN.out; omega)])
            have HK3 := Lib.hid (HKC.out.trans HK2.out (fun _ _ h => h))
            clear hun
            go_wp2
            all_goals
              try go_wp2
              go_roundw
              case rel => exact ⟨j + 1, by omega, by go_num, by rw [HCQ.out]; try (congr 1); try omega, HK3.out⟩
              case measure => simp; omega
      · obtain rfl : j = N + 1 := by omega
        have HF : Hid (NumPost w 0 ((mf (picks isEnd job l N)).2) (.returned (.tuple #[.int .i64 m, .int .i64 0])) wr) := Lib.hid ⟨by rw [if_pos rfl, HE.out, HM.out], HKA.out⟩
        go_wp2
        go_ret2
        exact HF.out
end Go.Proofs.Ytfhlllmicobafaa

/- The walk of the statement WindowSums. -/
import Derived.Test.YtelgknecainlfaaWiSumsPlain
import Derived.Deep.RegionWith
namespace Go.Proofs.Ytelgknecainlfaa
open Go.RowKit
open Wi (vld Srt chk longE)

theorem vld_of {t : Int} (h : 0 ≤ t ∧ t ≤ 253402300799) : vld t = true := Wi.vld_iff.2 h
theorem with_bad {l : List Int} {a b : Int} (h : chk l ≠ 0) : withE l a b = chk l ∧ withF l a b = 0 := by
  have e : withE l a b = chk l := by unfold withE; rw [if_pos h]
  exact ⟨e, by unfold withF; rw [if_neg (by rw [e]; exact h)]⟩
/-- The statement's condition. -/
def smB (n : Nat) (a b c : Int) : Bool := decide (100 < n) || decide (a < 0) || decide (b < a) || decide (c ≤ b) || decide (253402300799 < c)
set_option maxRecDepth 100000 in
set_option maxHeartbeats 4000000 in
theorem sums_w {w : World} {v : Value} {l : List Int} (h : Ints w v l) (hl : l.length ≤ maxLen) (a b c L : Int) : Calls Try.prog 10 #[v, .int .i64 a, .int .i64 b, .int .i64 c, .int .i64 L] w fun e w' => e = .returned (.bool true) ∧ Kept (fun _ => False) w w' := by
  by_cases hg : 100 < l.length ∨ a < 0 ∨ b < a ∨ c ≤ b ∨ 253402300799 < c
  · obtain ⟨aa, cap, rfl⟩ := h.len
    have hl2 := maxlen_le hl
    clear h hl
    generalize l.length = n at hg hl2 ⊢
    by_cases g1 : (100 : Int) < n
    · go_enter Try.func10, Try.ntmps10
      go_wp2_with (go_at_call 14; refine works_t.mono ?_; rintro e w2 ⟨rfl, K⟩)
      go_ret
      exact ⟨rfl, K⟩
    by_cases g2 : a < 0
    · go_enter Try.func10, Try.ntmps10
      go_wp2_with (go_at_call 14; refine works_t.mono ?_; rintro e w2 ⟨rfl, K⟩)
      go_ret
      exact ⟨rfl, K⟩
    by_cases g3 : b < a
    · go_enter Try.func10, Try.ntmps10
      go_wp2_with (go_at_call 14; refine works_t.mono ?_; rintro e w2 ⟨rfl, K⟩)
      go_ret
      exact ⟨rfl, K⟩
    by_cases g4 : c ≤ b
    · go_enter Try.func10, Try.ntmps10
      go_wp2_with (go_at_call 14; refine works_t.mono ?_; rintro e w2 ⟨rfl, K⟩)
      go_ret
      exact ⟨rfl, K⟩
    have g5 : 253402300799 < c := by omega
    go_enter Try.func10, Try.ntmps10
    go_wp2_with (go_at_call 14; refine works_t.mono ?_; rintro e w2 ⟨rfl, K⟩)
    go_ret
    exact ⟨rfl, K⟩
  · have g1 : ¬ (100 : Int) < l.length := by omega
    have g2 : ¬ a < 0 := by omega
    have g3 : ¬ b < a := by omega
    have g4 : ¬ c ≤ b := by omega
    have g5 : ¬ 253402300799 < c := by omega
    have hl' : l.length ≤ 4611686018427387904 := by omega
    have HQ := Lib.hid h
    have HW1 := Lib.hid (fun W (K : Kept (fun _ => False) w W) x y => within_c (h.same K) hl' x y)
    have HM := Lib.hid (fun W (K : Kept (fun _ => False) w W) => most_c (h.same K) hl' L)
    obtain ⟨aa, cap, rfl⟩ := h.len
    obtain ⟨n, hnn⟩ : ∃ n : Nat, n = l.length := ⟨_, rfl⟩
    rw [← hnn] at g1 HQ HW1 HM ⊢
    have HN := Lib.hid hnn
    clear h hl hl' hnn hg
    by_cases hc : chk l = 0
    · have hgd := Wi.chk_good.1 hc
      have E1 := withE_ok (l := l) hc (vld_of (t := a) (by omega)) (vld_of (t := b) (by omega))
      have E2 := withE_ok (l := l) hc (vld_of (t := b + 1) (by omega)) (vld_of (t := c) (by omega))
      have E3 := withE_ok (l := l) hc (vld_of (t := a) (by omega)) (vld_of (t := c) (by omega))
      have HS := Lib.hid (cntIn_add (a := a) (b := b) (c := c) (by omega) (by omega) l)
      have H1 := Lib.hid (HW1.out)
      have HP1 : Hid (∀ W (K : Kept (fun _ => False) w W), Calls Try.prog 29 #[.slice aa n cap, .int .i64 a, .int .i64 b] W fun e w' => e = .returned (.tuple #[.int .i64 (cntIn a b l : Int), .int .i64 0]) ∧ Kept (fun _ => False) W w') := Lib.hid fun W K => by
        have := HW1.out W K a b
        unfold WithPost at this
        rw [E1.1, E1.2] at this
        exact this
      have HP2 : Hid (∀ W (K : Kept (fun _ => False) w W), Calls Try.prog 29 #[.slice aa n cap, .int .i64 (b + 1), .int .i64 c] W fun e w' => e = .returned (.tuple #[.int .i64 (cntIn (b + 1) c l : Int), .int .i64 0]) ∧ Kept (fun _ => False) W w') := Lib.hid fun W K => by
        have := HW1.out W K (b + 1) c
        unfold WithPost at this
        rw [E2.1, E2.2] at this
        exact this
      have HP3 : Hid (∀ W (K : Kept (fun _ => False) w W), Calls Try.prog 29 #[.slice aa n cap, .int .i64 a, .int .i64 c] W fun e w' => e = .returned (.tuple #[.int .i64 (cntIn a c l : Int), .int .i64 0]) ∧ Kept (fun _ => False) W w') := Lib.hid fun W K => by
        have := HW1.out W K a c
        unfold WithPost at this
        rw [E3.1, E3.2] at this
        exact this
      have hb1 : cntIn a b l ≤ n := by have := cntIn_le a b l; have := HN.out; omega
      have hb2 : cntIn (b + 1) c l ≤ n := by have := cntIn_le (b + 1) c l; have := HN.out; omega
      clear H1 E1 E2 E3
      generalize hq1 : cntIn a b l = q1 at HP1 HS hb1
      generalize hq2 : cntIn (b + 1) c l = q2 at HP2 HS hb2
      have HS' : Hid ((cntIn a c l : Int) = (q1 : Int) + q2) := Lib.hid (by have := HS.out; omega)
      rw [HS'.out] at HP3
      clear hq1 hq2 HS HS'
      rcases longE_cases L with ⟨hlg, hL, hL2⟩ | ⟨hlg, hL⟩
      · have HE : Hid (mostE l L = 0) := Lib.hid ((mostE_long hc).trans hlg)
        have HSR := Lib.hid hgd.srt
        have HVL := Lib.hid hgd.vld
        have HP4 : Hid (∀ W (K : Kept (fun _ => False) w W) x, 0 ≤ x → x ≤ 253402300799 → Calls Try.prog 29 #[.slice aa n cap, .int .i64 x, .int .i64 (min (x + L) 253402300799)] W fun e w' => e = .returned (.tuple #[.int .i64 (cspan l L x : Int), .int .i64 0]) ∧ Kept (fun _ => False) W w') := Lib.hid fun W K x h1 h2 => by
          have := HW1.out W K x (min (x + L) 253402300799)
          unfold WithPost at this
          have E := withE_ok (l := l) hc (vld_of (t := x) (by omega)) (vld_of (t := min (x + L) 253402300799) (by omega))
          rw [E.1, E.2] at this
          exact this
        clear hgd hlg hc HW1
        go_enter Try.func10, Try.ntmps10
        go_wp2_with (go_at_call 29; fail)
        refine (HP1.out _ (Kept.refl _ _)).mono ?_
        rintro e w1 ⟨rfl, K1⟩
        have HK1 := Lib.hid K1
        clear K1 HP1
        go_wp2_with (go_at_call 29; fail)
        refine (HP2.out _ HK1.out).mono ?_
        rintro e w2 ⟨rfl, K⟩
        have HK2 := Lib.hid (HK1.out.trans K (fun _ _ h => h))
        clear K HK1 HP2
        go_wp2_with (go_at_call 29; fail)
        refine (HP3.out _ HK2.out).mono ?_
        rintro e w3 ⟨rfl, K⟩
        have HK3 := Lib.hid (HK2.out.trans K (fun _ _ h => h))
        clear K HK2 HP3
        go_wp2_with (go_at_call 22; fail)
        refine (HM.out _ HK3.out).mono ?_
        rintro e w4 ⟨m, rfl, hm1, hm2, K⟩
        rw [if_pos HE.out] at hm1
        rw [HE.out]
        have HMX := Lib.hid hm1
        have HK4 := Lib.hid (HK3.out.trans K (fun _ _ h => h))
        clear K HK3 HM hm1
        go_wp2
        go_loopw [19, 20] (fun bv iv' wr => ∃ (j k : Nat), j ≤ n ∧ iv' = .int .i64 j ∧ bv = .int .i64 k ∧ k ≤ n ∧ ((∀ (q : Nat) x, q < j → l[q]? = some x → cspan l L x ≤ k) ∧ (k = 0 ∨ ∃ (q : Nat) (x : Int), l[q]? = some x ∧ cspan l L x = k)) ∧ Kept (fun _ => False) w wr) (fun _ i _ => match i with | .int _ x => (n - x).toNat | _ => 0)
        case atStart => exact ⟨0, 0, Nat.zero_le _, rfl, rfl, Nat.zero_le _, ⟨fun q x h => absurd h (by omega), .inl rfl⟩, HK4.out⟩
        case round =>
          obtain ⟨j, k, hj, rfl, rfl, hkn, hb, K⟩ := hrel
          have HB := Lib.hid hb
          have HK := Lib.hid K
          clear hb K
          by_cases hlt : j < n
          · have hjl : j < l.length := by have := HN.out; omega
            obtain ⟨b0, off, cap', hv, hb0, hcell⟩ := (HQ.out.same HK.out).pos (by have := HN.out; omega)
            rw [← HN.out] at hv
            injection hv with e1 e2 e3
            subst e1 e3
            have c0 := IntsK.at hcell hjl
            clear hcell
            have hx := HVL.out l[j] (List.getElem_mem hjl)
            have HX := Lib.hid (get_of hjl)
            generalize l[j] = x at c0 HX hx
            have hwr : IntKind.i64.wrap (x + L) = x + L := IntWalk.i64_in _ (by omega)
            have HC : Hid (Calls Try.prog 29 #[.slice (some ⟨b0, off, none⟩) n cap, .int .i64 x, .int .i64 (min (IntKind.i64.wrap (x + L)) 253402300799)] wr.drew fun e w' => e = .returned (.tuple #[.int .i64 (cspan l L x : Int), .int .i64 0]) ∧ Kept (fun _ => False) wr.drew w') := Lib.hid (by rw [hwr]; exact HP4.out _ HK.out.drew x hx.1 hx.2)
            clear hwr
            have hcl : cspan l L x ≤ n := by have := cntIn_le x (min (x + L) 253402300799) l; have := HN.out; unfold cspan; omega
            have HB2 : Hid ((∀ (q : Nat) x', q < j + 1 → l[q]? = some x' → cspan l L x' ≤ max k (cspan l L x)) ∧ (max k (cspan l L x) = 0 ∨ ∃ (q : Nat) (x' : Int), l[q]? = some x' ∧ cspan l L x' = max k (cspan l L x))) := Lib.hid ⟨fun q x' hq hx' => by
                by_cases e : q = j
                · subst e; rw [HX.out] at hx'; injection hx' with hx'; subst hx'; exact Nat.le_max_right _ _
                · have := HB.out.1 q x' (by omega) hx'; omega, by
                by_cases h : k < cspan l L x
                · exact .inr ⟨j, x, HX.out, by omega⟩
                · rw [Nat.max_eq_left (by omega)]; exact HB.out.2⟩
            generalize cspan l L x = cs at HC hcl HB2
            have hmx : (max (k : Int) (cs : Int)) = ((max k cs : Nat) : Int) := by omega
            have hmn : max k cs ≤ n := by omega
            have HMX := Lib.hid hmx
            clear hmx
            go_wp2
            go_region_with (go_at_call 29; refine HC.out.mono ?_; rintro e w5 ⟨rfl, K5⟩; have HK5 := Lib.hid (HK.out.drew.trans K5 (fun _ _ h => h)); clear K5)
            all_goals
              go_wp2
              go_roundw
              case rel => exact ⟨j + 1, max k cs, by omega, by go_num, by rw [HMX.out], hmn, HB2.out, HK5.out⟩
              case measure => simp; omega
          · have HF : Hid (k = m) := Lib.hid (MaxOf.unique (best_max HSR.out (fun x hx => (HVL.out x hx).2) (fun q x hx => HB.out.1 q x (by have := (List.getElem?_eq_some_iff.1 hx).1; have := HN.out; omega) hx) HB.out.2) HMX.out)
            obtain rfl := HF.out
            clear HF HB HMX
            go_wp2_with (go_at_call 14; refine works_t.mono ?_; rintro e w2 ⟨rfl, K2⟩)
            go_ret
            exact ⟨rfl, HK.out.trans K2 (fun _ _ h => h)⟩
      · have HE : Hid (mostE l L = 2) := Lib.hid ((mostE_long hc).trans hlg)
        clear hgd hlg hc hL
        clear HW1
        go_enter Try.func10, Try.ntmps10
        go_wp2_with (go_at_call 29; fail)
        refine (HP1.out _ (Kept.refl _ _)).mono ?_
        rintro e w1 ⟨rfl, K1⟩
        have HK1 := Lib.hid K1
        clear K1 HP1
        go_wp2_with (go_at_call 29; fail)
        refine (HP2.out _ HK1.out).mono ?_
        rintro e w2 ⟨rfl, K⟩
        have HK2 := Lib.hid (HK1.out.trans K (fun _ _ h => h))
        clear K HK1 HP2
        go_wp2_with (go_at_call 29; fail)
        refine (HP3.out _ HK2.out).mono ?_
        rintro e w3 ⟨rfl, K⟩
        have HK3 := Lib.hid (HK2.out.trans K (fun _ _ h => h))
        clear K HK2 HP3
        go_wp2_with (go_at_call 22; fail)
        refine (HM.out _ HK3.out).mono ?_
        rintro e w4 ⟨m, rfl, hm1, hm2, K⟩
        rw [if_neg (by rw [HE.out]; decide)] at hm1
        rw [HE.out]
        subst hm1
        have HK4 := Lib.hid (HK3.out.trans K (fun _ _ h => h))
        clear K HK3 HM
        go_wp2_with (go_at_call 14; refine works_t.mono ?_; rintro e w2 ⟨rfl, K2⟩)
        go_ret
        exact ⟨rfl, HK4.out.trans K2 (fun _ _ h => h)⟩
    · have HZ := Lib.hid hc
      obtain ⟨r, hr⟩ : ∃ r, chk l = r := ⟨_, rfl⟩
      have HP1 : Hid (∀ W (K : Kept (fun _ => False) w W) x y, Calls Try.prog 29 #[.slice aa n cap, .int .i64 x, .int .i64 y] W fun e w' => e = .returned (.tuple #[.int .i64 0, .int .i64 r]) ∧ Kept (fun _ => False) W w') := Lib.hid fun W K x y => by
        have := HW1.out W K x y
        unfold WithPost at this
        rw [(with_bad hc).1, (with_bad hc).2, hr] at this
        exact this
      rw [hr] at hc
      have hb : (r == 0) = false := by simpa using hc
      have hb2 : (r != 0) = true := by simpa using hc
      clear HW1 HZ hr
      go_enter Try.func10, Try.ntmps10
      go_wp2_with (go_at_call 29; fail)
      refine (HP1.out _ (Kept.refl _ _) _ _).mono ?_
      rintro e w1 ⟨rfl, K1⟩
      have HK1 := Lib.hid K1
      clear K1
      go_wp2_with (go_at_call 29; fail)
      refine (HP1.out _ HK1.out _ _).mono ?_
      rintro e w2 ⟨rfl, K⟩
      have HK2 := Lib.hid (HK1.out.trans K (fun _ _ h => h))
      clear K HK1
      go_wp2_with (go_at_call 29; fail)
      refine (HP1.out _ HK2.out _ _).mono ?_
      rintro e w3 ⟨rfl, K⟩
      have HK3 := Lib.hid (HK2.out.trans K (fun _ _ h => h))
      clear K HK2 HP1
      go_wp2_with (go_at_call 22; fail)
      refine (HM.out _ HK3.out).mono ?_
      rintro e w4 ⟨m, rfl, hm1, hm2, K⟩
      have HK4 := Lib.hid (HK3.out.trans K (fun _ _ h => h))
      clear K HK3 HM hm1
      go_wp2_with (go_at_call 14; refine works_t.mono ?_; rintro e w2 ⟨rfl, K2⟩)
      go_ret
      exact ⟨rfl, HK4.out.trans K2 (fun _ _ h => h)⟩
end Go.Proofs.Ytelgknecainlfaa

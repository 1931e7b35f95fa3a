/- The walk of the statement WindowBusy. -/
import Derived.Test.YtelgknecainlfaaWiBusy2
import Derived.Test.YtelgknecainlfaaWiCountsW
namespace Go.Proofs.Ytelgknecainlfaa
open Go.RowKit
open Wi (vld Srt chk)

set_option maxRecDepth 100000 in
set_option maxHeartbeats 4000000 in
theorem busy_w {w : World} {v u : Value} {f g : List Int} (h : Ints w v f) (k : Ints w u g) (hl : f.length ≤ maxLen) (hl2 : g.length ≤ maxLen) (a L : Int) (hL : 0 ≤ L ∧ L ≤ 65535) : Calls Try.prog 8 #[v, u, .int .i64 a, .int .u16 L] w fun e w' => e = .returned (.bool true) ∧ Kept (fun _ => False) w w' := by
  by_cases hg : 60 < f.length ∨ 60 < g.length ∨ a < 0 ∨ 253402300499 < a
  · have m1 := maxlen_le hl
    have m2 := maxlen_le hl2
    obtain ⟨aa, cap, rfl⟩ := h.len
    obtain ⟨ab, cbp, rfl⟩ := k.len
    clear h k hl hl2
    generalize f.length = n at *
    generalize g.length = m at *
    by_cases g1 : (60 : Int) < n
    · go_enter Try.func8, Try.ntmps8
      go_wp2_with (go_at_call 14; refine works_t.mono ?_; rintro e w5 ⟨rfl, K⟩)
      go_ret
      exact ⟨rfl, K⟩
    by_cases g2 : (60 : Int) < m
    · go_enter Try.func8, Try.ntmps8
      go_wp2_with (go_at_call 14; refine works_t.mono ?_; rintro e w5 ⟨rfl, K⟩)
      go_ret
      exact ⟨rfl, K⟩
    by_cases g3 : a < 0
    · go_enter Try.func8, Try.ntmps8
      go_wp2_with (go_at_call 14; refine works_t.mono ?_; rintro e w5 ⟨rfl, K⟩)
      go_ret
      exact ⟨rfl, K⟩
    have g4 : 253402300499 < a := by omega
    go_enter Try.func8, Try.ntmps8
    go_wp2_with (go_at_call 14; refine works_t.mono ?_; rintro e w5 ⟨rfl, K⟩)
    go_ret
    exact ⟨rfl, K⟩
  · have g1 : ¬ (60 : Int) < f.length := by omega
    have g2 : ¬ (60 : Int) < g.length := by omega
    have g3 : ¬ a < 0 := by omega
    have g4 : ¬ 253402300499 < a := by omega
    have HBZ := Lib.hid (fun W (K : Kept (fun _ => False) w W) x y => busy_c (h.same K) (k.same K) (by omega) (by omega) x y)
    have HUN := Lib.hid (fun W (K : Kept (fun _ => False) w W) (e : f.length = g.length) x => under_c (h.same K) (k.same K) (by omega) e x)
    obtain ⟨aa, cap, rfl⟩ := h.len
    obtain ⟨ab, cbp, rfl⟩ := k.len
    clear h k hl hl2 hg
    obtain ⟨r, hr, hr0, hr1⟩ : ∃ r, L.tmod 300 = r ∧ 0 ≤ r ∧ r < 300 := ⟨_, rfl, by rw [Int.tmod_eq_emod_of_nonneg hL.1]; omega, by rw [Int.tmod_eq_emod_of_nonneg hL.1]; omega⟩
    have hr2 : L % 300 = r := by rw [← hr, Int.tmod_eq_emod_of_nonneg hL.1]
    by_cases hz : runsE f g = 0
    · have HE := Lib.hid (runsE_ok hz)
      have HZ := Lib.hid hz
      obtain ⟨n, hn⟩ : ∃ n : Nat, n = f.length := ⟨_, rfl⟩
      obtain ⟨m, hm⟩ : ∃ m : Nat, m = g.length := ⟨_, rfl⟩
      rw [← hn] at g1
      rw [← hm] at g2
      rw [← hn, ← hm] at HBZ HUN ⊢
      have hnm : n = m := by have := HE.out.1; omega
      have HU2 := Lib.hid (fun W K x => HUN.out W K hnm x)
      have HB2 := Lib.hid (busyE_ok (a := a) (b := a + r) hz (by simp only [Wi.vld_iff.2 (show 0 ≤ a ∧ a ≤ 253402300799 by omega), Wi.vld_iff.2 (show 0 ≤ a + r ∧ a + r ≤ 253402300799 by omega)]; rfl))
      have HB3 : Hid (a ≠ 0 → busyE f g (a + r) (a - 1) = 0 ∧ busyV f g (a + r) (a - 1) = 0) := Lib.hid fun h0 => by
        have := busyE_ok (a := a + r) (b := a - 1) hz (by simp only [Wi.vld_iff.2 (show 0 ≤ a + r ∧ a + r ≤ 253402300799 by omega), Wi.vld_iff.2 (show 0 ≤ a - 1 ∧ a - 1 ≤ 253402300799 by omega)]; rfl)
        refine ⟨this.1, ?_⟩
        rw [this.2]
        unfold busyF
        rw [show (a - 1 - (a + r) + 1).toNat = 0 by omega]
        rfl
      have HBF : Hid (busyF f g a (a + r) = cntR (bz f g) a (r + 1).toNat) := Lib.hid (by unfold busyF; rw [show a + r - a + 1 = r + 1 by omega])
      have HCS := Lib.hid (fun i => cntR_succ (bz f g) a i)
      clear hn hm hz HUN
      subst hnm
      have hmn : min 1 (a + r - a + 1) = 1 := by omega
      go_enter Try.func8, Try.ntmps8
      go_wp2_with (go_at_call 25; fail)
      refine (HBZ.out _ (Kept.refl _ _) _ _).mono ?_
      rintro e w1 ⟨rfl, K1⟩
      rw [HB2.out.1, HB2.out.2, HBF.out]
      have HK1 := Lib.hid K1
      clear K1
      have hle := cntR_le (bz f g) a (r + 1).toNat
      go_wp2
      go_loopw [12, 13] (fun sv tv wr => ∃ (i : Nat), (i : Int) ≤ r + 1 ∧ tv = .int .i64 (a + i) ∧ sv = .int .i64 (cntR (bz f g) a i) ∧ Kept (fun _ => False) w wr) (fun _ i _ => match i with | .int _ x => (a + r + 1 - x).toNat | _ => 0)
      case atStart => exact ⟨0, by omega, by go_num, rfl, HK1.out⟩
      case round =>
        obtain ⟨i, hi, rfl, rfl, K⟩ := hrel
        have HK := Lib.hid K
        clear K
        have hci := cntR_le (bz f g) a i
        have HS := Lib.hid (HCS.out i)
        by_cases hlt : (i : Int) ≤ r
        · have hlt2 : a + (i : Int) ≤ a + r := by omega
          have HC := Lib.hid (HU2.out _ HK.out (a + (i : Int)))
          cases hb : bz f g (a + (i : Int)) with
          | true =>
            have hp : 0 < atF f g (a + (i : Int)) := by unfold bz at hb; simpa using hb
            have HS2 : Hid ((cntR (bz f g) a (i + 1) : Int) = (cntR (bz f g) a i : Int) + 1) := Lib.hid (by rw [HS.out, hb]; rfl)
            generalize cntR (bz f g) a i = ci at HS2 hci ⊢
            generalize atF f g (a + (i : Int)) = q at HC hp
            clear hb
            go_wp2_with (go_at_call 27; refine HC.out.mono ?_; rintro e w2 ⟨rfl, rfl⟩)
            go_roundw
            case rel => exact ⟨i + 1, by omega, by go_num, by rw [HS2.out], HK.out⟩
            case measure => simp; omega
          | false =>
            have hp : atF f g (a + (i : Int)) = 0 := by unfold bz at hb; simp at hb; omega
            have HS2 : Hid ((cntR (bz f g) a (i + 1) : Int) = (cntR (bz f g) a i : Int)) := Lib.hid (by rw [HS.out, hb]; rfl)
            rw [hp] at HC
            generalize cntR (bz f g) a i = ci at HS2 hci ⊢
            clear hb hp
            go_wp2_with (go_at_call 27; refine HC.out.mono ?_; rintro e w2 ⟨rfl, rfl⟩)
            go_roundw
            case rel => exact ⟨i + 1, by omega, by go_num, by rw [HS2.out], HK.out⟩
            case measure => simp; omega
        · have hlt2 : ¬ a + (i : Int) ≤ a + r := by omega
          have hir : i = (r + 1).toNat := by omega
          have HIR := Lib.hid hir
          rw [← HIR.out] at hle ⊢
          clear hir HBF HB2
          generalize cntR (bz f g) a i = ci at hle hci ⊢
          by_cases h0 : a = 0
          · subst h0
            go_wp2_with (go_at_call 25; fail)
            refine (HBZ.out _ HK.out _ _).mono ?_
            rintro e w3 ⟨rfl, K3⟩
            go_wp2_with (go_at_call 14; refine works_t.mono ?_; rintro e w4 ⟨rfl, K4⟩)
            go_ret
            exact ⟨rfl, HK.out.trans (K3.trans K4 (fun _ _ h => h)) (fun _ _ h => h)⟩
          · have h00 : (a == 0) = false := by simpa using h0
            have H3 := Lib.hid (HB3.out h0)
            go_wp2_with (go_at_call 25; fail)
            refine (HBZ.out _ HK.out _ _).mono ?_
            rintro e w3 ⟨rfl, K3⟩
            rw [H3.out.1, H3.out.2]
            go_wp2_with (go_at_call 14; refine works_t.mono ?_; rintro e w4 ⟨rfl, K4⟩)
            go_ret
            exact ⟨rfl, HK.out.trans (K3.trans K4 (fun _ _ h => h)) (fun _ _ h => h)⟩
    · have HE := Lib.hid (busyE_bad (a := a) (b := a + r) hz)
      obtain ⟨er, her⟩ : ∃ er, runsE f g = er := ⟨_, rfl⟩
      have HR := Lib.hid her
      rw [her] at hz
      have hb : (er == 0) = false := by simpa using hz
      have hb2 : (er != 0) = true := by simpa using hz
      clear her HUN
      generalize f.length = n at *
      generalize g.length = m at *
      go_enter Try.func8, Try.ntmps8
      go_wp2_with (go_at_call 25; fail)
      refine (HBZ.out _ (Kept.refl _ _) _ _).mono ?_
      rintro e w1 ⟨rfl, K1⟩
      rw [HE.out.1, HE.out.2, HR.out]
      go_wp2_with (go_at_call 14; refine works_t.mono ?_; rintro e w4 ⟨rfl, K4⟩)
      go_ret
      exact ⟨rfl, K1.trans K4 (fun _ _ h => h)⟩
end Go.Proofs.Ytelgknecainlfaa

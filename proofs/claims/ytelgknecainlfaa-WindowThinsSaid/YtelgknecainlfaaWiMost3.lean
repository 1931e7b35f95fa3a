/- WiMost3: texts for the statements of this seat: contracts of functions, walks, plain laws. Conditions: none. -/
import Derived.Test.YtelgknecainlfaaWiMost2
set_option linter.all false
/- The reference's Most. -/
namespace Go.Proofs.Ytelgknecainlfaa
open Go.RowKit
open Wi (vld Srt chk longE)

theorem mostE_many {l : List Int} {L : Int} (h : chk l ≠ 0) : mostE l L = chk l := by unfold mostE or2; rw [if_pos h]
theorem mostE_long {l : List Int} {L : Int} (h : chk l = 0) : mostE l L = longE L := by unfold mostE or2; rw [if_neg (by simp [h])]
set_option maxRecDepth 100000 in
set_option maxHeartbeats 4000000 in
theorem rmost_c {w : World} {v : Value} {l : List Int} (h : Ints w v l) (hl : l.length ≤ 4611686018427387904) (L : Int) : Calls Try.prog 28 #[v, .int .i64 L] w (MostPost l L w) := by
  have HQ := Lib.hid h
  have HC := Lib.hid (rcheck_c h hl)
  obtain ⟨aa, cap, rfl⟩ := h.len
  obtain ⟨n, hn⟩ : ∃ n : Nat, n = l.length := ⟨_, rfl⟩
  rw [← hn] at hl HC HQ ⊢
  have HN := Lib.hid hn
  clear h hn
  by_cases hc : chk l = 0
  · have hgood := Wi.chk_good.1 hc
    have hn5 : n ≤ 100000 := by have := hgood.len; have := HN.out; omega
    have HG := Lib.hid hgood.vld
    have HS := Lib.hid hgood.srt
    have HE := Lib.hid (mostE_long (L := L) hc)
    have HZ := Lib.hid hc
    clear hgood hc
    rcases longE_cases L with ⟨hlg, hL, hL2⟩ | ⟨hlg, hL⟩
    · rw [hlg] at HE
      clear hlg
      have HM0 : Hid (MaxOf (fun i k => i < 0 ∧ okp l L i k) 0) := Lib.hid (MaxOf.none fun i j h => by omega)
      go_enter Try.func28, Try.ntmps28
      go_wp2_with (go_at_call 32; fail)
      refine HC.out.mono ?_
      rintro e w1 ⟨rfl, K1⟩
      rw [HZ.out]
      have HK1 := Lib.hid K1
      clear K1 HC
      go_wp2
      go_loopw [7, 8] (fun bv iv' wr => ∃ (i b : Nat), i ≤ n ∧ iv' = .int .i64 i ∧ bv = .int .i64 b ∧ b ≤ n ∧ MaxOf (fun a k => a < i ∧ okp l L a k) b ∧ Kept (fun _ => False) w1 wr) (fun _ i _ => match i with | .int _ x => (n - x).toNat | _ => 0)
      case atStart => exact ⟨0, 0, Nat.zero_le _, rfl, rfl, Nat.zero_le _, HM0.out, Kept.refl _ _⟩
      case round =>
        obtain ⟨i, b, hi, rfl, rfl, hbn, hm, K⟩ := hrel
        have HM := Lib.hid hm
        have HK := Lib.hid K
        clear hm K HM0
        by_cases hlt : i < n
        · have hil : i < l.length := by have := HN.out; omega
          have hx := HG.out l[i] (List.getElem_mem hil)
          have HX := Lib.hid (get_of hil)
          generalize l[i] = x at hx HX
          go_wp2
          go_loopw [9, 10] (fun cv kv wy => ∃ k : Nat, i ≤ k ∧ k ≤ n ∧ kv = .int .i64 k ∧ cv = .int .i64 ((k : Int) - i) ∧ (∀ q, i ≤ q → q < k → okp l L i q) ∧ Kept (fun _ => False) wr wy) (fun _ i _ => match i with | .int _ x => (n - x).toNat | _ => 0)
          case atStart => exact ⟨i, Nat.le_refl _, hi, rfl, by go_num, fun q a b => absurd a (by omega), Kept.refl _ _⟩
          case round =>
            obtain ⟨k, hik, hkn, rfl, rfl, hall, K2⟩ := hrel
            have HALL := Lib.hid hall
            have HK2 := Lib.hid K2
            clear hall K2
            by_cases hlt2 : k < n
            · have hkl : k < l.length := by have := HN.out; omega
              have hy := HG.out l[k] (List.getElem_mem hkl)
              have HY := Lib.hid (get_of hkl)
              obtain ⟨b0, off, cap', hv, hb0, hcell⟩ := (((HQ.out.same HK1.out).same HK.out).same HK2.out).pos (by have := HN.out; omega)
              rw [← HN.out] at hv
              injection hv with e1 e2 e3
              subst e1 e3
              have c1 := IntsK.at hcell hkl
              have c0 := hcell i x HX.out
              clear hcell
              generalize l[k] = y at c1 hy HY
              have hw : IntKind.i64.wrap (y - x) = y - x := IntWalk.i64_in _ (by omega)
              have HOK : Hid (okp l L i k ↔ y - x ≤ L) := Lib.hid ⟨fun ⟨x', y', hx', hy', _, h⟩ => by
                rw [HX.out] at hx'; rw [HY.out] at hy'
                injection hx' with hx'; injection hy' with hy'
                subst hx' hy'; exact h, fun h => ⟨x, y, HX.out, HY.out, hik, h⟩⟩
              have hd1 : decide ((k : Int) < (n : Int)) = true := decide_eq_true (by omega)
              by_cases hE : y - x ≤ L
              · have hd2 : decide (y - x ≤ L) = true := decide_eq_true hE
                have HA2 : Hid (∀ q, i ≤ q → q < k + 1 → okp l L i q) := Lib.hid fun q a c => by
                  by_cases e : q = k
                  · subst e; exact HOK.out.2 hE
                  · exact HALL.out q a (by omega)
                go_wp2
                go_quiet (fail)
                go_wp2
                go_roundw
                case rel => exact ⟨k + 1, by omega, by omega, by go_num, by go_num, HA2.out, HK2.out.drewN _⟩
                case measure => simp; omega
              · have hd2 : decide (y - x ≤ L) = false := decide_eq_false hE
                have hik2 : i < k := by
                  rcases Nat.lt_or_ge i k with q | q
                  · exact q
                  · exfalso
                    obtain rfl : k = i := by omega
                    have := HX.out; rw [HY.out] at this; injection this with this
                    omega
                have HNE : Hid (∀ q, k ≤ q → ¬ okp l L i q) := Lib.hid fun q hq h => by
                  have := HOK.out.1 (okp.down HS.out h hik hq); exact hE this
                have HM2 : Hid (MaxOf (fun a k => a < i + 1 ∧ okp l L a k) (max b (k - i))) := Lib.hid (HM.out.step (fun a q h => ⟨by omega, h.2⟩) (fun a q h => by
                  rcases Nat.lt_or_ge a i with c | c
                  · exact .inl ⟨c, h.2⟩
                  · obtain rfl : a = i := by omega
                    right
                    rcases Nat.lt_or_ge q k with c2 | c2
                    · omega
                    · exact absurd h.2 (HNE.out q c2)) ⟨i, k - 1, ⟨by omega, HALL.out (k - 1) (by omega) (by omega)⟩, by omega⟩)
                have HMX : Hid ((if (b : Int) < (k : Int) - (i : Int) then (k : Int) - (i : Int) else (b : Int)) = ((max b (k - i) : Nat) : Int)) := Lib.hid (by split <;> omega)
                have HB : Hid (max b (k - i) ≤ n) := Lib.hid (by omega)
                generalize hmx : max b (k - i) = mx at HMX HM2 HB
                clear hmx
                obtain ⟨d, hd⟩ : ∃ d, (k : Int) - (i : Int) = d := ⟨_, rfl⟩
                rw [hd] at HMX ⊢
                clear hd
                go_wp2
                go_quiet (fail)
                go_wp2
                go_roundw
                case rel => exact ⟨i + 1, mx, by omega, by go_num, by rw [HMX.out], HB.out, HM2.out, HK.out.trans (HK2.out.drewN _) (fun _ _ h => h)⟩
                case measure => simp; omega
            · obtain rfl : k = n := by omega
              have hd1 : decide ((k : Int) < (k : Int)) = false := decide_eq_false (by omega)
              have HM2 : Hid (MaxOf (fun a q => a < i + 1 ∧ okp l L a q) (max b (k - i))) := Lib.hid (HM.out.step (fun a q h => ⟨by omega, h.2⟩) (fun a q h => by
                  rcases Nat.lt_or_ge a i with c | c
                  · exact .inl ⟨c, h.2⟩
                  · obtain rfl : a = i := by omega
                    right
                    have := h.2.lt
                    have := HN.out
                    omega) ⟨i, k - 1, ⟨by omega, HALL.out (k - 1) (by omega) (by omega)⟩, by omega⟩)
              have HMX : Hid ((if (b : Int) < (k : Int) - (i : Int) then (k : Int) - (i : Int) else (b : Int)) = ((max b (k - i) : Nat) : Int)) := Lib.hid (by split <;> omega)
              have HB : Hid (max b (k - i) ≤ k) := Lib.hid (by omega)
              generalize hmx : max b (k - i) = mx at HMX HM2 HB
              clear hmx
              obtain ⟨d, hd⟩ : ∃ d, (k : Int) - (i : Int) = d := ⟨_, rfl⟩
              rw [hd] at HMX ⊢
              clear hd
              go_wp2
              go_quiet (fail)
              go_wp2
              go_roundw
              case rel => exact ⟨i + 1, mx, by omega, by go_num, by rw [HMX.out], HB.out, HM2.out, HK.out.trans (HK2.out.drewN _) (fun _ _ h => h)⟩
              case measure => simp; omega
        · have HF : Hid (MaxOf (okp l L) b) := Lib.hid (HM.out.congr fun i k => ⟨fun h => h.2, fun h => ⟨by have := h.lt; have := HN.out; omega, h⟩⟩)
          go_wp2
          go_ret2
          exact ⟨b, by rw [HE.out]; rfl, by rw [if_pos HE.out]; exact HF.out, by omega, HK1.out.trans HK.out (fun _ _ h => h)⟩
    · rw [hlg] at HE
      clear hlg
      by_cases hL0 : L < 0
      all_goals
        go_enter Try.func28, Try.ntmps28
        go_wp2_with (go_at_call 32; fail)
        refine HC.out.mono ?_
        rintro e w1 ⟨rfl, K1⟩
        rw [HZ.out]
        have hL3 : ¬ L < 0 → 68719476736 < L := fun q => hL.resolve_left q
        (try have hL4 := hL3 hL0)
        clear hL3
        go_wp2
        go_ret2
        exact ⟨0, by rw [HE.out]; rfl, by rw [if_neg (by rw [HE.out]; decide)], Nat.zero_le _, K1⟩
  · have HE := Lib.hid (mostE_many (L := L) hc)
    have HZ := Lib.hid hc
    obtain ⟨r, hr⟩ : ∃ r, chk l = r := ⟨_, rfl⟩
    rw [hr] at hc
    have hb : (r == 0) = false := by simpa using hc
    have hb2 : (r != 0) = true := by simpa using hc
    have HRR := Lib.hid hr
    clear hr
    go_enter Try.func28, Try.ntmps28
    go_wp2_with (go_at_call 32; fail)
    refine HC.out.mono ?_
    rintro e w1 ⟨rfl, K1⟩
    rw [HRR.out]
    go_wp2
    go_ret2
    exact ⟨0, by rw [HE.out, HRR.out]; rfl, by rw [if_neg (by rw [HE.out]; exact HZ.out)], Nat.zero_le _, K1⟩
end Go.Proofs.Ytelgknecainlfaa

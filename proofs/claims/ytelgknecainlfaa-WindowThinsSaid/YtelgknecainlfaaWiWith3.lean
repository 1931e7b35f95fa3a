/- WiWith3: texts for the statements of this seat: contracts of functions, walks, plain laws. Conditions: none. -/
import Derived.Test.YtelgknecainlfaaWiWith2
set_option linter.all false
/- Within of the reference. -/
namespace Go.Proofs.Ytelgknecainlfaa
open Go.RowKit
open Wi (vld Srt chk longE)
set_option maxRecDepth 100000 in
set_option maxHeartbeats 4000000 in
theorem rwithin_c {w : World} {v : Value} {l : List Int} (h : Ints w v l) (hl : l.length ≤ 4611686018427387904) (a b : Int) : Calls Try.prog 30 #[v, .int .i64 a, .int .i64 b] w (WithPost l a b w) := by
  have HQ := Lib.hid h
  have HC := Lib.hid (rcheck_c h hl)
  obtain ⟨aa, cap, rfl⟩ := h.len
  obtain ⟨n, hn⟩ : ∃ n : Nat, n = l.length := ⟨_, rfl⟩
  rw [← hn] at hl HC HQ ⊢
  have HN := Lib.hid hn
  clear h hn
  by_cases hc : chk l = 0
  · have hgood := Wi.chk_good.1 hc
    have hn5 : n ≤ 100000 := by have := hgood.len; have := HN.out; omega
    have HZ := Lib.hid hc
    clear hgood
    have HVA := Lib.hid (fun W => rtime_c a W)
    have HVB := Lib.hid (fun W => rtime_c b W)
    cases ha : vld a with
    | false =>
      have HE := Lib.hid (withE_bad (a := a) (b := b) hc (by rw [ha]; rfl))
      rw [ha] at HVA
      clear hc ha
      go_enter Try.func30, Try.ntmps30
      go_wp2_with (go_at_call 32; fail)
      refine HC.out.mono ?_
      rintro e w1 ⟨rfl, K1⟩
      rw [HZ.out]
      go_wp2_with (go_at_call 46; refine (HVA.out _).mono ?_; rintro e w' ⟨rfl, rfl⟩)
      go_ret2
      exact ⟨by rw [HE.out.1, HE.out.2]; rfl, K1⟩
    | true =>
      cases hb : vld b with
      | false =>
        have HE := Lib.hid (withE_bad (a := a) (b := b) hc (by rw [ha, hb]; rfl))
        rw [ha] at HVA
        rw [hb] at HVB
        clear hc ha hb
        go_enter Try.func30, Try.ntmps30
        go_wp2_with (go_at_call 32; fail)
        refine HC.out.mono ?_
        rintro e w1 ⟨rfl, K1⟩
        rw [HZ.out]
        go_wp2_with (go_at_call 46; first | (refine (HVA.out _).mono ?_; rintro e w' ⟨rfl, rfl⟩) | (refine (HVB.out _).mono ?_; rintro e w' ⟨rfl, rfl⟩))
        go_ret2
        exact ⟨by rw [HE.out.1, HE.out.2]; rfl, K1⟩
      | true =>
        have HE := Lib.hid (withE_ok hc ha hb)
        have HST : Hid (∀ j x, l[j]? = some x → cntIn a b (l.take (j + 1)) = cntIn a b (l.take j) + if (decide (a ≤ x) && decide (x ≤ b)) = true then 1 else 0) := Lib.hid fun j x hx => by
          obtain ⟨hj, rfl⟩ := List.getElem?_eq_some_iff.1 hx
          exact cntIn_snoc a b hj
        rw [ha] at HVA
        rw [hb] at HVB
        clear hc ha hb
        go_enter Try.func30, Try.ntmps30
        go_wp2_with (go_at_call 32; fail)
        refine HC.out.mono ?_
        rintro e w1 ⟨rfl, K1⟩
        rw [HZ.out]
        have HK1 := Lib.hid K1
        clear K1 HC
        go_wp2_with (go_at_call 46; first | (refine (HVA.out _).mono ?_; rintro e w' ⟨rfl, rfl⟩) | (refine (HVB.out _).mono ?_; rintro e w' ⟨rfl, rfl⟩))
        go_loopw [9, 10] (fun cv jv wr => ∃ (j c : Nat), j ≤ n ∧ jv = .int .i64 j ∧ cv = .int .i64 c ∧ c = cntIn a b (l.take j) ∧ c ≤ j ∧ w1 = wr) (fun _ i _ => match i with | .int _ x => (n - x).toNat | _ => 0)
        case atStart => exact ⟨0, 0, Nat.zero_le _, rfl, rfl, rfl, Nat.zero_le _, rfl⟩
        case round =>
          obtain ⟨j, c, hj, rfl, rfl, hcc, hcj, rfl⟩ := hrel
          have HCC := Lib.hid hcc
          clear hcc
          by_cases hlt : j < n
          · have hjl : j < l.length := by have := HN.out; omega
            obtain ⟨b0, off, cap', hv, hb0, hcell⟩ := (HQ.out.same HK1.out).pos (by have := HN.out; omega)
            rw [← HN.out] at hv
            injection hv with e1 e2 e3
            subst e1 e3
            have c0 := IntsK.at hcell hjl
            clear hcell
            have HS := Lib.hid (HST.out j _ (get_of hjl))
            generalize l[j] = x at c0 HS
            by_cases h1 : a ≤ x
            · by_cases h2 : x ≤ b
              · have HN2 : Hid (c + 1 = cntIn a b (l.take (j + 1))) := Lib.hid (by rw [HS.out, ← HCC.out, if_pos (by simp [h1, h2])])
                go_wp2
                go_roundw
                case rel => exact ⟨j + 1, c + 1, by omega, by go_num, by go_num, HN2.out, by omega, trivial⟩
                case measure => simp; omega
              · have HN2 : Hid (c = cntIn a b (l.take (j + 1))) := Lib.hid (by rw [HS.out, ← HCC.out, if_neg (by simp; omega)]; rfl)
                go_wp2
                go_roundw
                case rel => exact ⟨j + 1, c, by omega, by go_num, rfl, HN2.out, by omega, trivial⟩
                case measure => simp; omega
            · have HN2 : Hid (c = cntIn a b (l.take (j + 1))) := Lib.hid (by rw [HS.out, ← HCC.out, if_neg (by simp; omega)]; rfl)
              go_wp2
              go_roundw
              case rel => exact ⟨j + 1, c, by omega, by go_num, rfl, HN2.out, by omega, trivial⟩
              case measure => simp; omega
          · have HF : Hid (c = cntIn a b l) := Lib.hid (by rw [HCC.out, List.take_of_length_le (by have := HN.out; omega)])
            go_wp2
            go_ret2
            exact ⟨by rw [HE.out.1, HE.out.2, ← HF.out]; rfl, HK1.out⟩
  · have HE := Lib.hid (withE_chk (a := a) (b := b) hc)
    obtain ⟨r, hr⟩ : ∃ r, chk l = r := ⟨_, rfl⟩
    rw [hr] at hc
    have hb : (r == 0) = false := by simpa using hc
    have hb2 : (r != 0) = true := by simpa using hc
    have HRR := Lib.hid hr
    clear hr
    go_enter Try.func30, Try.ntmps30
    go_wp2_with (go_at_call 32; fail)
    refine HC.out.mono ?_
    rintro e w1 ⟨rfl, K1⟩
    rw [HRR.out]
    go_wp2
    go_ret2
    exact ⟨by rw [HE.out.1, HE.out.2, HRR.out]; rfl, K1⟩
end Go.Proofs.Ytelgknecainlfaa

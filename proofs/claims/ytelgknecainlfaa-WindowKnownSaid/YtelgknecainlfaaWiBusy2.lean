/- The program's Busy. -/
import Derived.Test.YtelgknecainlfaaWiBusy1
import Derived.Test.YtelgknecainlfaaWiPeak2
import Derived.Test.YtelgknecainlfaaWiWith2
namespace Go.Proofs.Ytelgknecainlfaa
open Go.RowKit
open Wi (vld Srt chk)

set_option maxRecDepth 100000 in
set_option maxHeartbeats 4000000 in
theorem busy_c {w : World} {v u : Value} {f g : List Int} (h : Ints w v f) (k : Ints w u g) (hl : f.length ≤ 4611686018427387904) (hl2 : g.length ≤ 4611686018427387904) (a b : Int) : Calls Try.prog 25 #[v, u, .int .i64 a, .int .i64 b] w (BusyPost f g a b w) := by
  have HT := Lib.hid (turns_c h k hl hl2)
  obtain ⟨aa, cap, rfl⟩ := h.len
  obtain ⟨ab, cbp, rfl⟩ := k.len
  generalize f.length = n at HT ⊢
  generalize g.length = m at HT ⊢
  clear h k hl hl2
  by_cases hr : runsE f g = 0
  · cases hva : vld a with
    | false =>
      have HE := Lib.hid (busyE_time (a := a) (b := b) hr (by rw [hva]; rfl))
      have HV := Lib.hid (fun W => valid_b false a W hva)
      have HR := Lib.hid hr
      clear hva hr
      go_enter Try.func25, Try.ntmps25
      go_wp2_with (first | (go_at_call 42; refine HT.out.mono ?_; rintro e w1 ⟨s, d, rfl, -, -, K1⟩; rw [HR.out]; have HK1 := Lib.hid K1; clear K1) | (go_at_call 45; refine (HV.out _).mono ?_; rintro e w' ⟨rfl, rfl⟩))
      go_ret2
      exact ⟨by rw [HE.out.1, HE.out.2]; rfl, HK1.out⟩
    | true =>
      cases hvb : vld b with
      | false =>
        have HE := Lib.hid (busyE_time (a := a) (b := b) hr (by rw [hva, hvb]; rfl))
        have HV := Lib.hid (fun W => valid_b true a W hva)
        have HV2 := Lib.hid (fun W => valid_b false b W hvb)
        have HR := Lib.hid hr
        clear hva hvb hr
        go_enter Try.func25, Try.ntmps25
        go_wp2_with (first | (go_at_call 42; refine HT.out.mono ?_; rintro e w1 ⟨s, d, rfl, -, -, K1⟩; rw [HR.out]; have HK1 := Lib.hid K1; clear K1) | (go_at_call 45; first | (refine (HV.out _).mono ?_; rintro e w' ⟨rfl, rfl⟩) | (refine (HV2.out _).mono ?_; rintro e w' ⟨rfl, rfl⟩)))
        go_ret2
        exact ⟨by rw [HE.out.1, HE.out.2]; rfl, HK1.out⟩
      | true =>
        have hta := Wi.vld_iff.1 hva
        have htb := Wi.vld_iff.1 hvb
        have HE := Lib.hid (busyE_ok (a := a) (b := b) hr (by rw [hva, hvb]; rfl))
        have HV := Lib.hid (fun W => valid_b true a W hva)
        have HV2 := Lib.hid (fun W => valid_b true b W hvb)
        have HR := Lib.hid hr
        clear hva hvb hr
        go_enter Try.func25, Try.ntmps25
        go_wp2_with (first | (go_at_call 42; refine HT.out.mono ?_; rintro e w1 ⟨s, d, rfl, hs, hd, K1⟩; rw [HR.out]; have HK1 := Lib.hid K1; rw [if_pos HR.out] at hd; have HS := Lib.hid hs; have HD := Lib.hid hd; obtain ⟨sa, sc, rfl⟩ := hs.len; obtain ⟨q, hq⟩ : ∃ q : Nat, q = d.length := ⟨_, rfl⟩; rw [← hq] at HS ⊢; have HQ := Lib.hid hq; clear hs hd K1 hq HT) | (go_at_call 45; first | (refine (HV.out _).mono ?_; rintro e w' ⟨rfl, rfl⟩) | (refine (HV2.out _).mono ?_; rintro e w' ⟨rfl, rfl⟩)))
        have HTD : Hid (Turned f g d) := Lib.hid ⟨HD.out.1, HD.out.2, (runsE_ok HR.out).2.2.2⟩
        have HTT : Hid (∀ x ∈ d, 0 ≤ x.1 ∧ x.1 ≤ 253402300799) := Lib.hid fun x hx => trn_times (HD.out.1.mem_iff.1 hx) (runsE_ok HR.out).2.2.1
        have hq2 : q ≤ 200000 := by
          have := HD.out.1.length_eq
          have := trn_len f g
          have := (runsE_ok HR.out).2.1
          have := HQ.out
          omega
        obtain ⟨M, hM⟩ : ∃ M : Nat, M = (b - a + 1).toNat := ⟨_, rfl⟩
        have hMM := Lib.hid hM
        have hM2 : M ≤ 253402300800 := by omega
        clear hM
        go_loopw [12, 13, 14, 38] (fun sv nv tv jv wr => ∃ (j sm : Nat) (t : Int), j ≤ q ∧ jv = .int .i64 j ∧ nv = .int .i64 (ct (d.take j)) ∧ sv = .int .i64 sm ∧ tv = .int .i64 t ∧ (0 ≤ t ∧ t ≤ 253402300799) ∧ BsT f g d a M j sm t ∧ Kept (fun _ => False) w1 wr) (fun _ _ _ i _ => match i with | .int _ x => (q - x).toNat | _ => 0)
        case atStart => exact ⟨0, 0, 0, Nat.zero_le _, rfl, rfl, rfl, rfl, by omega, BsT.start f g d a M, Kept.refl _ _⟩
        case round =>
          obtain ⟨j, sm, t, hj, rfl, rfl, rfl, rfl, ht, hp, K⟩ := hrel
          have HP := Lib.hid hp
          have HK := Lib.hid K
          have hc0 := HTD.out.nonneg j
          have hsm : sm ≤ M := by
            rcases Int.lt_or_eq_of_le hc0 with q | q
            · obtain ⟨s, -, -, -, -, e⟩ := hp.pos q; rw [e]; exact cntR_le _ _ _
            · rw [hp.zero q.symm]; exact cntR_le _ _ _
          clear hp K
          have hcb := ct_le (d.take j)
          have hcl : (d.take j).length ≤ j := by rw [List.length_take]; exact Nat.min_le_left _ _
          by_cases hlt : j < q
          · have hjd : j < d.length := by have := HQ.out; omega
            obtain ⟨b0, off, cap', hv, hcp, hb0, hcell⟩ := (HS.out.same HK.out).pos (by have := HQ.out; omega)
            rw [← HQ.out] at hv
            injection hv with e1 e2 e3
            subst e1 e3
            have HX := Lib.hid (List.getElem?_eq_getElem hjd)
            have hxt := HTT.out _ (List.getElem_mem hjd)
            have hcx := hcell j _ HX.out
            have HCT := Lib.hid (ct_snoc d HX.out)
            have hc1 := HTD.out.nonneg (j + 1)
            clear hcell
            generalize d[j] = x at hcx HX HCT hxt
            obtain ⟨x, y⟩ := x
            obtain ⟨c0, c1⟩ := hcx
            simp only at c0 c1 hxt
            have HB0 := Lib.hid (fun (e : y = true) h => HP.out.begin0 (x := x) (by rw [HX.out, e]) h)
            have HST := Lib.hid (fun h h' => HP.out.stay h h')
            have HEN := Lib.hid (fun (e : y = false) h => HP.out.end0 HTD.out (x := x) (by rw [HX.out, e]) h)
            generalize ct (d.take j) = c at HCT hcb hc0 HB0 HST HEN
            cases y with
            | false =>
              have hN : ct (d.take (j + 1)) = c - 1 := by rw [HCT.out]; simp; omega
              have HN := Lib.hid hN
              have hc2 : 1 ≤ c := by omega
              by_cases h1 : c = 1
              · subst h1
                have hsp := cntR_span t x a M
                have hle := cntR_le (inR t x) a M
                have HP2 := Lib.hid (HEN.out rfl rfl)
                have HVL : Hid ((sm : Int) + max 0 (min (x - 1) b - max t a + 1) = ((sm + cntR (inR t x) a M : Nat) : Int)) := Lib.hid (by
                  have := hMM.out
                  omega)
                clear hN HEN HST HB0
                generalize cntR (inR t x) a M = cs at HP2 HVL hsp hle
                clear hsp
                go_wp2
                go_roundw
                case rel => exact ⟨j + 1, sm + cs, t, by omega, by go_num, by rw [HN.out]; rfl, by rw [HVL.out], rfl, ht, HP2.out, HK.out.alloc _⟩
                case measure => simp; omega
              · have HP2 := Lib.hid (HST.out (by omega) (by omega))
                have h1' : ((c - 1 : Int) == 0) = false := by simp; omega
                clear hN HEN HST HB0
                go_wp2
                go_roundw
                case rel => exact ⟨j + 1, sm, t, by omega, by go_num, by rw [HN.out], rfl, rfl, ht, HP2.out, HK.out.alloc _⟩
                case measure => simp; omega
            | true =>
              have hN : ct (d.take (j + 1)) = c + 1 := by rw [HCT.out]; simp
              have HN := Lib.hid hN
              by_cases h1 : c = 0
              · subst h1
                have HP2 := Lib.hid (HB0.out rfl rfl)
                clear hN HEN HST HB0
                go_wp2
                go_roundw
                case rel => exact ⟨j + 1, sm, x, by omega, by go_num, by rw [HN.out]; rfl, rfl, rfl, hxt, HP2.out, HK.out.alloc _⟩
                case measure => simp; omega
              · have HP2 := Lib.hid (HST.out (by omega) (by omega))
                have h1' : (c == 0) = false := by simpa using h1
                clear hN HEN HST HB0
                go_wp2
                go_roundw
                case rel => exact ⟨j + 1, sm, t, by omega, by go_num, by rw [HN.out], rfl, rfl, ht, HP2.out, HK.out.alloc _⟩
                case measure => simp; omega
          · have HF : Hid (sm = busyF f g a b) := Lib.hid (by unfold busyF; rw [← hMM.out]; exact HP.out.done HTD.out (by have := HQ.out; omega))
            clear HP
            go_wp2
            go_ret2
            exact ⟨by rw [HE.out.1, HE.out.2, ← HF.out]; rfl, HK1.out.trans HK.out (fun _ _ h => h)⟩
  · have HE := Lib.hid (busyE_bad (a := a) (b := b) hr)
    obtain ⟨r, hrr⟩ : ∃ r, runsE f g = r := ⟨_, rfl⟩
    have HR := Lib.hid hrr
    rw [hrr] at hr
    have hb : (r == 0) = false := by simpa using hr
    have hb2 : (r != 0) = true := by simpa using hr
    clear hrr
    go_enter Try.func25, Try.ntmps25
    go_wp2_with (go_at_call 42; refine HT.out.mono ?_; rintro e w1 ⟨s, d, rfl, -, -, K1⟩; rw [HR.out]; have HK1 := Lib.hid K1; clear K1)
    go_ret2
    exact ⟨by rw [HE.out.1, HE.out.2, HR.out]; rfl, HK1.out⟩
end Go.Proofs.Ytelgknecainlfaa

/- The walk of the statement WindowPeaks. -/
import Derived.Test.YtelgknecainlfaaWiBusy2
import Derived.Test.YtelgknecainlfaaWiPeaksPlain
import Derived.Test.YtelgknecainlfaaWiCountsW
namespace Go.Proofs.Ytelgknecainlfaa
open Go.RowKit
open Wi (vld Srt chk)

set_option maxRecDepth 100000 in
set_option maxHeartbeats 4000000 in
theorem peaks_w {w : World} {v u : Value} {f g : List Int} (h : Ints w v f) (k : Ints w u g) (hl : f.length ≤ maxLen) (hl2 : g.length ≤ maxLen) : Calls Try.prog 7 #[v, u] w fun e w' => e = .returned (.bool true) ∧ Kept (fun _ => False) w w' := by
  by_cases hg : 60 < f.length ∨ 60 < g.length
  · have m1 := maxlen_le hl
    have m2 := maxlen_le hl2
    obtain ⟨aa, cap, rfl⟩ := h.len
    obtain ⟨ab, cbp, rfl⟩ := k.len
    clear h k hl hl2
    generalize f.length = n at *
    generalize g.length = m at *
    by_cases g1 : (60 : Int) < n
    · go_enter Try.func7, Try.ntmps7
      go_wp2_with (go_at_call 14; refine works_t.mono ?_; rintro e w5 ⟨rfl, K⟩)
      go_ret
      exact ⟨rfl, K⟩
    have g2 : (60 : Int) < m := by omega
    go_enter Try.func7, Try.ntmps7
    go_wp2_with (go_at_call 14; refine works_t.mono ?_; rintro e w5 ⟨rfl, K⟩)
    go_ret
    exact ⟨rfl, K⟩
  · have g1 : ¬ (60 : Int) < f.length := by omega
    have g2 : ¬ (60 : Int) < g.length := by omega
    have HPE := Lib.hid (fun W (K : Kept (fun _ => False) w W) => peak_c (h.same K) (k.same K) (by omega) (by omega))
    have HBZ := Lib.hid (fun W (K : Kept (fun _ => False) w W) => busy_c (h.same K) (k.same K) (by omega) (by omega) 0 253402300799)
    have HUN := Lib.hid (fun W (K : Kept (fun _ => False) w W) (e : f.length = g.length) x => under_c (h.same K) (k.same K) (by omega) e x)
    have HQ := Lib.hid h
    have HP := Lib.hid k
    obtain ⟨aa, cap, rfl⟩ := h.len
    obtain ⟨ab, cbp, rfl⟩ := k.len
    clear h k hl hl2 hg
    by_cases hz : runsE f g = 0
    · have HE := Lib.hid (runsE_ok hz)
      have HZ := Lib.hid hz
      obtain ⟨n, hn⟩ : ∃ n : Nat, n = f.length := ⟨_, rfl⟩
      obtain ⟨m, hm⟩ : ∃ m : Nat, m = g.length := ⟨_, rfl⟩
      rw [← hn] at g1 HQ
      rw [← hm] at g2 HP
      rw [← hn, ← hm] at HPE HBZ HUN ⊢
      have HN := Lib.hid hn
      have HM := Lib.hid hm
      have hnm : n = m := by have := HE.out.1; omega
      have HU2 := Lib.hid (fun W K x => HUN.out W K hnm x)
      have HB2 := Lib.hid (busyE_ok (a := 0) (b := 253402300799) hz (by decide))
      have HTF : Hid (∀ x ∈ f, 0 ≤ x ∧ x ≤ 253402300799) := Lib.hid fun x hx => by
        have := HE.out.2.2.1
        simp only [Bool.and_eq_true, List.all_eq_true] at this
        exact Wi.vld_iff.1 (this.1 x hx)
      have HTG : Hid (∀ x ∈ g, 0 ≤ x ∧ x ≤ 253402300799) := Lib.hid fun x hx => by
        have := HE.out.2.2.1
        simp only [Bool.and_eq_true, List.all_eq_true] at this
        exact Wi.vld_iff.1 (this.2 x hx)
      have HFW : Hid (∀ p ∈ f.zip g, p.1 ≤ p.2) := Lib.hid fun p hp => by
        have hf := HE.out.2.2.2
        rw [List.any_eq_false] at hf
        have := hf p hp
        simp [backB] at this
        exact this
      clear hn hm hz HUN
      subst hnm
      go_enter Try.func7, Try.ntmps7
      go_wp2_with (go_at_call 23; fail)
      refine (HPE.out _ (Kept.refl _ _)).mono ?_
      rintro e w1 ⟨pn, pt, rfl, hp, hpl, K1⟩
      rw [if_pos HZ.out] at hp
      rw [HZ.out]
      have HPK := Lib.hid hp
      have HK1 := Lib.hid K1
      obtain ⟨hb1, hb2, hb3⟩ := peak_busy HZ.out (fun p hp => ⟨(HTF.out _ (List.of_mem_zip hp).1).1, HFW.out p hp, (HTG.out _ (List.of_mem_zip hp).2).2⟩) HTF.out hp
      have hpt : 0 ≤ pt ∧ pt ≤ 253402300799 := by
        rcases Nat.eq_zero_or_pos pn with q | q
        · rw [hp.no q]; omega
        · exact HTF.out _ (hp.is q).1
      have hno := hp.no
      have HUW : Hid (0 < pn → atF f g pt = pn) := Lib.hid fun q => (hp.is q).2
      have hpn : pn ≤ 60 := by have := HN.out; omega
      clear hp K1 hpl
      go_wp2_with (go_at_call 25; fail)
      refine (HBZ.out _ HK1.out).mono ?_
      rintro e w2 ⟨rfl, K⟩
      rw [HB2.out.1, HB2.out.2]
      have HK2 := Lib.hid (HK1.out.trans K (fun _ _ h => h))
      have hbl : busyF f g 0 253402300799 ≤ 253402300800 := cntR_le _ _ _
      clear K HK1 HBZ HB2 HPE
      generalize busyF f g 0 253402300799 = bf at hb1 hb2 hb3 hbl ⊢
      have HSD : Hid (∀ j x y, f[j]? = some x → g[j]? = some y → sumD ((f.zip g).take (j + 1)) = sumD ((f.zip g).take j) + (y - x)) := Lib.hid fun j x y => sumD_at
      obtain ⟨S, hS⟩ : ∃ S, sumD (f.zip g) = S := ⟨_, rfl⟩
      rw [hS] at hb2 hb3
      have HSS := Lib.hid hS
      clear hS
      by_cases hp0 : pn = 0
      · subst hp0
        have hbf : bf = 0 := hb1.1 rfl
        subst hbf
        have hpt0 : pt = 0 := hno rfl
        subst hpt0
        have hS0 : (0 : Int) = S := hb3 (by omega)
        subst hS0
        clear hb1 hb2 hb3 hno hbl
        go_wp2
        go_loopw [10, 11] (fun sv jv wr => ∃ (j : Nat), j ≤ n ∧ jv = .int .i64 j ∧ sv = .int .i64 (sumD ((f.zip g).take j)) ∧ (0 ≤ sumD ((f.zip g).take j) ∧ sumD ((f.zip g).take j) ≤ (j : Int) * 253402300799) ∧ Kept (fun _ => False) w2 wr) (fun _ i _ => match i with | .int _ x => (n - x).toNat | _ => 0)
        case atStart => exact ⟨0, Nat.zero_le _, rfl, rfl, ⟨Int.le_refl _, Int.le_refl _⟩, Kept.refl _ _⟩
        case round =>
          obtain ⟨j, hj, rfl, rfl, hsm, K⟩ := hrel
          have HK := Lib.hid K
          clear K
          by_cases hlt : j < n
          · have hjf : j < f.length := by have := HN.out; omega
            have hjg : j < g.length := by have := HM.out; omega
            obtain ⟨b0, off, cap', hv, hb0, hcell⟩ := ((HQ.out.same HK2.out).same HK.out).pos (by have := HN.out; omega)
            rw [← HN.out] at hv
            injection hv with e1 e2 e3
            subst e1 e3
            have c0 := IntsK.at hcell hjf
            clear hcell e2
            obtain ⟨b1, of1, ca1, hv, hb1', hcell⟩ := ((HP.out.same HK2.out).same HK.out).pos (by have := HM.out; omega)
            rw [← HM.out] at hv
            injection hv with e1 e2 e3
            subst e1 e3
            have c1 := IntsK.at hcell hjg
            clear hcell e2
            have HX := Lib.hid (get_of hjf)
            have HY := Lib.hid (get_of hjg)
            have hx := HTF.out f[j] (List.getElem_mem hjf)
            have hy := HTG.out g[j] (List.getElem_mem hjg)
            generalize f[j] = x at c0 HX hx
            generalize g[j] = y at c1 HY hy
            have hxy : x ≤ y := HFW.out (x, y) (List.mem_of_getElem? (zip_at HX.out HY.out))
            have HS2 := Lib.hid (HSD.out j x y HX.out HY.out)
            have HC := Lib.hid (HU2.out _ (HK2.out.trans HK.out (fun _ _ h => h)) x)
            have htop := HPK.out.top x (List.mem_of_getElem? HX.out)
            have hlow := fun q => HPK.out.low q x (List.mem_of_getElem? HX.out)
            generalize atF f g x = c at HC htop hlow
            generalize hsj : sumD ((f.zip g).take j) = sj at hsm HS2
            clear hsj
            have hj60 : (j : Int) * 253402300799 ≤ 60 * 253402300799 := by omega
            have hb2' : 0 ≤ sumD ((f.zip g).take (j + 1)) ∧ sumD ((f.zip g).take (j + 1)) ≤ ((j + 1 : Nat) : Int) * 253402300799 := by
              rw [HS2.out]
              omega
            have HB2' := Lib.hid hb2'
            clear hb2'
            obtain rfl : c = 0 := by omega
            clear hlow htop
            go_wp2_with (go_at_call 27; refine HC.out.mono ?_; rintro e w' ⟨rfl, rfl⟩)
            go_quiet (fail)
            go_wp2
            go_roundw
            case rel => exact ⟨j + 1, by omega, by go_num, by rw [HS2.out], HB2'.out, HK.out.drewN _⟩
            case measure => simp; omega
          · have HF : Hid (sumD ((f.zip g).take j) = 0) := Lib.hid (by rw [List.take_of_length_le (by rw [List.length_zip]; have := HN.out; omega)]; exact HSS.out)
            rw [HF.out]
            clear hsm
            go_wp2_with (go_at_call 14; refine works_t.mono ?_; rintro e w5 ⟨rfl, K⟩)
            go_ret
            exact ⟨rfl, HK2.out.trans (HK.out.trans K (fun _ _ h => h)) (fun _ _ h => h)⟩
      · have hbf : bf ≠ 0 := fun q => hp0 (hb1.2 q)
        have hbe : ((bf : Int) == 0) = false := by simp; omega
        have hpe : ((pn : Int) == 0) = false := by simp; omega
        clear hb1 hno
        go_wp2
        go_loopw [10, 11] (fun sv jv wr => ∃ (j : Nat), j ≤ n ∧ jv = .int .i64 j ∧ sv = .int .i64 (sumD ((f.zip g).take j)) ∧ (0 ≤ sumD ((f.zip g).take j) ∧ sumD ((f.zip g).take j) ≤ (j : Int) * 253402300799) ∧ Kept (fun _ => False) w2 wr) (fun _ i _ => match i with | .int _ x => (n - x).toNat | _ => 0)
        case atStart => exact ⟨0, Nat.zero_le _, rfl, rfl, ⟨Int.le_refl _, Int.le_refl _⟩, Kept.refl _ _⟩
        case round =>
          obtain ⟨j, hj, rfl, rfl, hsm, K⟩ := hrel
          have HK := Lib.hid K
          clear K
          by_cases hlt : j < n
          · have hjf : j < f.length := by have := HN.out; omega
            have hjg : j < g.length := by have := HM.out; omega
            obtain ⟨b0, off, cap', hv, hb0, hcell⟩ := ((HQ.out.same HK2.out).same HK.out).pos (by have := HN.out; omega)
            rw [← HN.out] at hv
            injection hv with e1 e2 e3
            subst e1 e3
            have c0 := IntsK.at hcell hjf
            clear hcell e2
            obtain ⟨b1, of1, ca1, hv, hb1', hcell⟩ := ((HP.out.same HK2.out).same HK.out).pos (by have := HM.out; omega)
            rw [← HM.out] at hv
            injection hv with e1 e2 e3
            subst e1 e3
            have c1 := IntsK.at hcell hjg
            clear hcell e2
            have HX := Lib.hid (get_of hjf)
            have HY := Lib.hid (get_of hjg)
            have hx := HTF.out f[j] (List.getElem_mem hjf)
            have hy := HTG.out g[j] (List.getElem_mem hjg)
            generalize f[j] = x at c0 HX hx
            generalize g[j] = y at c1 HY hy
            have hxy : x ≤ y := HFW.out (x, y) (List.mem_of_getElem? (zip_at HX.out HY.out))
            have HS2 := Lib.hid (HSD.out j x y HX.out HY.out)
            have HC := Lib.hid (HU2.out _ (HK2.out.trans HK.out (fun _ _ h => h)) x)
            have htop := HPK.out.top x (List.mem_of_getElem? HX.out)
            have hlow := fun q => HPK.out.low q x (List.mem_of_getElem? HX.out)
            generalize atF f g x = c at HC htop hlow
            generalize hsj : sumD ((f.zip g).take j) = sj at hsm HS2
            clear hsj
            have hj60 : (j : Int) * 253402300799 ≤ 60 * 253402300799 := by omega
            have hb2' : 0 ≤ sumD ((f.zip g).take (j + 1)) ∧ sumD ((f.zip g).take (j + 1)) ≤ ((j + 1 : Nat) : Int) * 253402300799 := by
              rw [HS2.out]
              omega
            have HB2' := Lib.hid hb2'
            clear hb2'
            by_cases hc : c = pn
            · subst hc
              have hnl : ¬ x < pt := by have := hlow (by omega) rfl; omega
              clear hlow htop
              go_wp2_with (go_at_call 27; refine HC.out.mono ?_; rintro e w' ⟨rfl, rfl⟩)
              go_quiet (fail)
              go_wp2
              go_roundw
              case rel => exact ⟨j + 1, by omega, by go_num, by rw [HS2.out], HB2'.out, HK.out.drewN _⟩
              case measure => simp; omega
            · have hcl : c < pn := by omega
              have hce : ((c : Int) == (pn : Int)) = false := by simp; omega
              have hce2 : ¬ (c : Int) = (pn : Int) := by omega
              clear hlow htop hc
              go_wp2_with (go_at_call 27; refine HC.out.mono ?_; rintro e w' ⟨rfl, rfl⟩)
              go_quiet (fail)
              go_wp2
              go_roundw
              case rel => exact ⟨j + 1, by omega, by go_num, by rw [HS2.out], HB2'.out, HK.out.drewN _⟩
              case measure => simp; omega
          · have HF : Hid (sumD ((f.zip g).take j) = S) := Lib.hid (by rw [List.take_of_length_le (by rw [List.length_zip]; have := HN.out; omega)]; exact HSS.out)
            rw [HF.out]
            clear hsm
            have HC := Lib.hid (HU2.out _ (HK2.out.trans HK.out (fun _ _ h => h)) pt)
            rw [HUW.out (by omega)] at HC
            by_cases h1 : 1 < pn
            · clear hb3
              go_wp2_with (first | (go_at_call 27; refine HC.out.mono ?_; rintro e w' ⟨rfl, rfl⟩) | (go_at_call 14; refine works_t.mono ?_; rintro e w5 ⟨rfl, K⟩))
              go_ret
              exact ⟨rfl, HK2.out.trans (HK.out.trans K (fun _ _ h => h)) (fun _ _ h => h)⟩
            · obtain rfl : pn = 1 := by omega
              have hS1 : (bf : Int) = S := hb3 (by omega)
              subst hS1
              clear hb3
              go_wp2_with (first | (go_at_call 27; refine HC.out.mono ?_; rintro e w' ⟨rfl, rfl⟩) | (go_at_call 14; refine works_t.mono ?_; rintro e w5 ⟨rfl, K⟩))
              go_ret
              exact ⟨rfl, HK2.out.trans (HK.out.trans K (fun _ _ h => h)) (fun _ _ h => h)⟩
    · have hz' := hz
      obtain ⟨er, her⟩ : ∃ er, runsE f g = er := ⟨_, rfl⟩
      have HR := Lib.hid her
      have HZ := Lib.hid hz'
      rw [her] at hz
      have hb : (er == 0) = false := by simpa using hz
      have hb2 : (er != 0) = true := by simpa using hz
      clear her HUN HBZ HQ HP hz'
      generalize f.length = n at *
      generalize g.length = m at *
      go_enter Try.func7, Try.ntmps7
      go_wp2_with (go_at_call 23; fail)
      refine (HPE.out _ (Kept.refl _ _)).mono ?_
      rintro e w1 ⟨pn, pt, rfl, hp, hpl, K1⟩
      rw [if_neg HZ.out] at hp
      obtain ⟨rfl, rfl⟩ := hp
      rw [HR.out]
      go_wp2_with (go_at_call 14; refine works_t.mono ?_; rintro e w5 ⟨rfl, K⟩)
      go_ret
      exact ⟨rfl, K1.trans K (fun _ _ h => h)⟩
end Go.Proofs.Ytelgknecainlfaa

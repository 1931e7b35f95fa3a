/- The reference's Busy. -/
import Derived.Test.YtelgknecainlfaaWiBusy1
import Derived.Test.YtelgknecainlfaaWiWith2
import Derived.Test.YtelgknecainlfaaWiPeak2
namespace Go.Proofs.Ytelgknecainlfaa
open Go.RowKit
open Wi (vld Srt chk)

/-- The last end of the runs that are under way at t, of the first j. -/
structure EndU (f g : List Int) (t : Int) (j : Nat) (e : Int) : Prop where
  ge : t ≤ e
  top : ∀ (q : Nat) (x y : Int), q < j → f[q]? = some x → g[q]? = some y → x ≤ t → t < y → y ≤ e
  is : e = t ∨ ∃ (q : Nat) (x : Int), f[q]? = some x ∧ g[q]? = some e ∧ x ≤ t ∧ t < e
theorem EndU.start (f g : List Int) (t : Int) : EndU f g t 0 t := ⟨Int.le_refl _, fun q _ _ h => absurd h (by omega), .inl rfl⟩
theorem EndU.step {f g : List Int} {t e x y : Int} {j : Nat} (h : EndU f g t j e) (hx : f[j]? = some x) (hy : g[j]? = some y) (h1 : x ≤ t) (h2 : t < y) : EndU f g t (j + 1) (max e y) :=
  ⟨by have := h.ge; omega, fun q x' y' hq hx' hy' a b => by
    by_cases e' : q = j
    · subst e'; rw [hy] at hy'; injection hy' with hy'; omega
    · have := h.top q x' y' (by omega) hx' hy' a b; omega, by
    by_cases c : e ≤ y
    · rw [show max e y = y by omega]; exact .inr ⟨j, x, hx, hy, h1, h2⟩
    · rw [show max e y = e by omega]; exact h.is⟩
theorem EndU.pass {f g : List Int} {t e x y : Int} {j : Nat} (h : EndU f g t j e) (hx : f[j]? = some x) (hy : g[j]? = some y) (h1 : ¬ (x ≤ t ∧ t < y)) : EndU f g t (j + 1) e :=
  ⟨h.ge, fun q x' y' hq hx' hy' a b => by
    by_cases e' : q = j
    · subst e'; rw [hx] at hx'; rw [hy] at hy'; injection hx' with hx'; injection hy' with hy'; subst hx' hy'; exact absurd ⟨a, b⟩ h1
    · exact h.top q x' y' (by omega) hx' hy' a b, h.is⟩
theorem EndU.busy {f g : List Int} {t e : Int} {j : Nat} (h : EndU f g t j e) (he : t < e) {s : Int} (h1 : t ≤ s) (h2 : s < e) : bz f g s = true := by
  rcases h.is with q | ⟨q, x, hx, hy, a, b⟩
  · omega
  · exact bz_iff.2 ⟨q, x, e, hx, hy, by omega, by omega⟩
theorem EndU.idle {f g : List Int} {t : Int} {j : Nat} (h : EndU f g t j t) (hj : f.length ≤ j) : bz f g t = false := by
  rw [← Bool.not_eq_true, bz_iff]
  rintro ⟨q, x, y, hx, hy, a, b⟩
  have := h.top q x y (by have := (List.getElem?_eq_some_iff.1 hx).1; omega) hx hy a b
  omega
/-- The next beginning, of the first j runs. -/
structure NxU (f g : List Int) (t B : Int) (j : Nat) (e : Int) : Prop where
  gt : t < e
  le : e ≤ B
  low : ∀ (q : Nat) (x y : Int), q < j → f[q]? = some x → g[q]? = some y → t < x → x < y → e ≤ x
theorem NxU.start (f g : List Int) {t B : Int} (h : t < B) : NxU f g t B 0 B := ⟨h, Int.le_refl _, fun q _ _ h => absurd h (by omega)⟩
theorem NxU.step {f g : List Int} {t B e x : Int} {j : Nat} (h : NxU f g t B j e) (hx : f[j]? = some x) (h1 : t < x) : NxU f g t B (j + 1) (min e x) :=
  ⟨by have := h.gt; omega, by have := h.le; omega, fun q x' y' hq hx' hy' a b => by
    by_cases e' : q = j
    · subst e'; rw [hx] at hx'; injection hx' with hx'; omega
    · have := h.low q x' y' (by omega) hx' hy' a b; omega⟩
theorem NxU.pass {f g : List Int} {t B e x y : Int} {j : Nat} (h : NxU f g t B j e) (hx : f[j]? = some x) (hy : g[j]? = some y) (h1 : ¬ (t < x ∧ x < y)) : NxU f g t B (j + 1) e :=
  ⟨h.gt, h.le, fun q x' y' hq hx' hy' a b => by
    by_cases e' : q = j
    · subst e'; rw [hx] at hx'; rw [hy] at hy'; injection hx' with hx'; injection hy' with hy'; subst hx' hy'; exact absurd ⟨a, b⟩ h1
    · exact h.low q x' y' (by omega) hx' hy' a b⟩
theorem NxU.idle {f g : List Int} {t B e : Int} {j : Nat} (h : NxU f g t B j e) (hj : f.length ≤ j) (h0 : bz f g t = false) {s : Int} (h1 : t ≤ s) (h2 : s < e) : bz f g s = false := by
  rw [← Bool.not_eq_true, bz_iff]
  rintro ⟨q, x, y, hx, hy, a, b⟩
  have hq : q < j := by have := (List.getElem?_eq_some_iff.1 hx).1; omega
  by_cases c : x ≤ t
  · have : bz f g t = true := bz_iff.2 ⟨q, x, y, hx, hy, c, by omega⟩
    rw [h0] at this; cases this
  · have := h.low q x y hq hx hy (by omega) (by omega)
    omega
/-- The reference's loop, at t. -/
def BzU (f g : List Int) (a b t : Int) (sm : Nat) : Prop := sm = cntR (bz f g) a (min t (b + 1) - a).toNat
theorem BzU.start (f g : List Int) (a b : Int) : BzU f g a b a 0 := by
  unfold BzU
  rw [show (min a (b + 1) - a).toNat = 0 by omega]
  rfl
theorem BzU.busy {f g : List Int} {a b t e : Int} {sm : Nat} (h : BzU f g a b t sm) (ha : a ≤ t) (hb : t ≤ b) (he : t < e) (hB : ∀ s, t ≤ s → s < e → bz f g s = true) : BzU f g a b e (sm + (min e (b + 1) - t).toNat) := by
  unfold BzU at *
  obtain ⟨m, hm⟩ : ∃ m : Nat, m = (min t (b + 1) - a).toNat := ⟨_, rfl⟩
  obtain ⟨k, hk⟩ : ∃ k : Nat, k = (min e (b + 1) - t).toNat := ⟨_, rfl⟩
  have q := cntR_all (p := bz f g) (a := a + (m : Int)) (m := k) fun i hi => hB _ (by omega) (by omega)
  rw [show (min e (b + 1) - a).toNat = m + k by omega, cntR_add, ← hk, h, ← hm, q]
theorem BzU.idle {f g : List Int} {a b t e : Int} {sm : Nat} (h : BzU f g a b t sm) (ha : a ≤ t) (hb : t ≤ b) (he : t < e) (hB : ∀ s, t ≤ s → s < e → bz f g s = false) : BzU f g a b e sm := by
  unfold BzU at *
  obtain ⟨m, hm⟩ : ∃ m : Nat, m = (min t (b + 1) - a).toNat := ⟨_, rfl⟩
  obtain ⟨k, hk⟩ : ∃ k : Nat, k = (min e (b + 1) - t).toNat := ⟨_, rfl⟩
  have q := cntR_none (p := bz f g) (a := a + (m : Int)) (m := k) fun i hi => hB _ (by omega) (by omega)
  rw [show (min e (b + 1) - a).toNat = m + k by omega, cntR_add, h, ← hm, q, Nat.add_zero]
theorem BzU.done {f g : List Int} {a b t : Int} {sm : Nat} (h : BzU f g a b t sm) (hb : b < t) : sm = busyF f g a b := by
  unfold BzU at h
  unfold busyF
  rw [h, show min t (b + 1) - a = b - a + 1 by omega]
set_option maxRecDepth 100000 in
set_option maxHeartbeats 4000000 in
theorem rbusy_c {w : World} {v u : Value} {f g : List Int} (h : Ints w v f) (k : Ints w u g) (hl : f.length ≤ 4611686018427387904) (hl2 : g.length ≤ 4611686018427387904) (a b : Int) : Calls Try.prog 26 #[v, u, .int .i64 a, .int .i64 b] w (BusyPost f g a b w) := by
  have HR := Lib.hid (runs_c h k hl hl2)
  by_cases hr : runsE f g = 0
  · rw [hr] at HR
    cases hva : vld a with
    | false =>
      obtain ⟨aa, cap, rfl⟩ := h.len
      obtain ⟨ab, cbp, rfl⟩ := k.len
      generalize f.length = n at HR ⊢
      generalize g.length = m at HR ⊢
      clear h k hl hl2
      have HE := Lib.hid (busyE_time (a := a) (b := b) hr (by rw [hva]; rfl))
      have HV := Lib.hid (fun W => rtime_b false a W hva)
      clear hva hr
      go_enter Try.func26, Try.ntmps26
      go_wp2_with (first | (go_at_call 43; refine HR.out.mono ?_; rintro e w1 ⟨rfl, K1⟩; have HK1 := Lib.hid K1; clear K1) | (go_at_call 46; refine (HV.out _).mono ?_; rintro e w' ⟨rfl, rfl⟩))
      go_ret2
      exact ⟨by rw [HE.out.1, HE.out.2]; rfl, HK1.out⟩
    | true =>
      cases hvb : vld b with
      | false =>
        obtain ⟨aa, cap, rfl⟩ := h.len
        obtain ⟨ab, cbp, rfl⟩ := k.len
        generalize f.length = n at HR ⊢
        generalize g.length = m at HR ⊢
        clear h k hl hl2
        have HE := Lib.hid (busyE_time (a := a) (b := b) hr (by rw [hva, hvb]; rfl))
        have HV := Lib.hid (fun W => rtime_b true a W hva)
        have HV2 := Lib.hid (fun W => rtime_b false b W hvb)
        clear hva hvb hr
        go_enter Try.func26, Try.ntmps26
        go_wp2_with (first | (go_at_call 43; refine HR.out.mono ?_; rintro e w1 ⟨rfl, K1⟩; have HK1 := Lib.hid K1; clear K1) | (go_at_call 46; first | (refine (HV.out _).mono ?_; rintro e w' ⟨rfl, rfl⟩) | (refine (HV2.out _).mono ?_; rintro e w' ⟨rfl, rfl⟩)))
        go_ret2
        exact ⟨by rw [HE.out.1, HE.out.2]; rfl, HK1.out⟩
      | true =>
        have hta := Wi.vld_iff.1 hva
        have htb := Wi.vld_iff.1 hvb
        have HE := Lib.hid (busyE_ok (a := a) (b := b) hr (by rw [hva, hvb]; rfl))
        have HV := Lib.hid (fun W => rtime_b true a W hva)
        have HV2 := Lib.hid (fun W => rtime_b true b W hvb)
        have hok := runsE_ok hr
        have HQ := Lib.hid h
        have HP := Lib.hid k
        have HTF : Hid (∀ x ∈ f, 0 ≤ x ∧ x ≤ 253402300799) := Lib.hid fun x hx => by
          have := hok.2.2.1
          simp only [Bool.and_eq_true, List.all_eq_true] at this
          exact Wi.vld_iff.1 (this.1 x hx)
        have HTG : Hid (∀ x ∈ g, 0 ≤ x ∧ x ≤ 253402300799) := Lib.hid fun x hx => by
          have := hok.2.2.1
          simp only [Bool.and_eq_true, List.all_eq_true] at this
          exact Wi.vld_iff.1 (this.2 x hx)
        obtain ⟨aa, cap, rfl⟩ := h.len
        obtain ⟨ab, cbp, rfl⟩ := k.len
        rw [← hok.1] at HP HR ⊢
        obtain ⟨n, hn⟩ : ∃ n : Nat, n = f.length := ⟨_, rfl⟩
        have hm := hn.trans hok.1
        have hn5 : n ≤ 100000 := by have := hok.2.1; omega
        rw [← hn] at HR HQ HP ⊢
        have HN := Lib.hid hn
        have HM := Lib.hid hm
        clear hva hvb hr hok hn hm h k hl hl2
        go_enter Try.func26, Try.ntmps26
        go_wp2_with (first | (go_at_call 43; refine HR.out.mono ?_; rintro e w1 ⟨rfl, K1⟩; have HK1 := Lib.hid K1; have HQ1 := Lib.hid (HQ.out.same K1); have HP1 := Lib.hid (HP.out.same K1); clear K1 HQ HP) | (go_at_call 46; first | (refine (HV.out _).mono ?_; rintro e w' ⟨rfl, rfl⟩) | (refine (HV2.out _).mono ?_; rintro e w' ⟨rfl, rfl⟩)))
        go_loopw [11, 12] (fun sv tv wr => ∃ (sm : Nat) (t : Int), sv = .int .i64 sm ∧ tv = .int .i64 t ∧ (a ≤ t ∧ t ≤ 253402300800) ∧ BzU f g a b t sm ∧ Kept (fun _ => False) w1 wr) (fun _ i _ => match i with | .int _ x => (b + 1 - x).toNat | _ => 0)
        case atStart => exact ⟨0, a, rfl, rfl, by omega, BzU.start f g a b, Kept.refl _ _⟩
        case round =>
          obtain ⟨sm, t, rfl, rfl, ht, hu, K⟩ := hrel
          have HU := Lib.hid hu
          have HK := Lib.hid K
          have hsm : sm ≤ 253402300800 := by
            have e : sm = _ := hu
            have := cntR_le (bz f g) a (min t (b + 1) - a).toNat
            omega
          clear hu K
          by_cases hlt : t ≤ b
          · go_wp2
            go_loopw [13, 14] (fun ev jv wy => ∃ (j : Nat) (e : Int), j ≤ n ∧ jv = .int .i64 j ∧ ev = .int .i64 e ∧ e ≤ 253402300799 ∧ EndU f g t j e ∧ Kept (fun _ => False) w1 wy) (fun _ i _ => match i with | .int _ x => (n - x).toNat | _ => 0)
            case atStart => exact ⟨0, t, Nat.zero_le _, rfl, rfl, by omega, EndU.start f g t, HK.out⟩
            case round =>
              obtain ⟨j, e, hj, rfl, rfl, he, hen, K⟩ := hrel
              have HEN := Lib.hid hen
              have HKY := Lib.hid K
              clear hen K
              by_cases hlt2 : j < n
              · have hjf : j < f.length := by have := HN.out; omega
                have hjg : j < g.length := by have := HM.out; omega
                obtain ⟨b0, off, cap', hv, hb0, hcell⟩ := (HQ1.out.same HKY.out).pos (by have := HN.out; omega)
                rw [← HN.out] at hv
                injection hv with e1 e2 e3
                subst e1 e3
                have c0 := IntsK.at hcell hjf
                clear hcell e2
                obtain ⟨b1, of1, ca1, hv, hb1, hcell⟩ := (HP1.out.same HKY.out).pos (by have := HM.out; omega)
                rw [← HM.out] at hv
                injection hv with e1 e2 e3
                subst e1 e3
                have c1 := IntsK.at hcell hjg
                clear hcell e2
                have HX := Lib.hid (get_of hjf)
                have HY := Lib.hid (get_of hjg)
                have hy := HTG.out g[j] (List.getElem_mem hjg)
                generalize f[j] = x at c0 HX
                generalize g[j] = y at c1 HY hy
                by_cases h1 : x ≤ t
                · by_cases h2 : t < y
                  · have HE2 := Lib.hid (HEN.out.step HX.out HY.out h1 h2)
                    have hme : max e y ≤ 253402300799 := by omega
                    go_wp2
                    go_roundw
                    case rel => exact ⟨j + 1, max e y, by omega, by go_num, rfl, hme, HE2.out, HKY.out⟩
                    case measure => simp; omega
                  · have HE2 := Lib.hid (HEN.out.pass HX.out HY.out (fun q => h2 q.2))
                    go_wp2
                    go_roundw
                    case rel => exact ⟨j + 1, e, by omega, by go_num, rfl, he, HE2.out, HKY.out⟩
                    case measure => simp; omega
                · have HE2 := Lib.hid (HEN.out.pass HX.out HY.out (fun q => h1 q.1))
                  go_wp2
                  go_roundw
                  case rel => exact ⟨j + 1, e, by omega, by go_num, rfl, he, HE2.out, HKY.out⟩
                  case measure => simp; omega
              · by_cases hte : t < e
                · have HU2 := Lib.hid (HU.out.busy ht.1 hlt hte (fun s h1 h2 => HEN.out.busy hte h1 h2))
                  have hsu : (sm : Int) + min e (b + 1) - t = ((sm + (min e (b + 1) - t).toNat : Nat) : Int) := by omega
                  have HSU := Lib.hid hsu
                  have hbd : (sm : Int) + min e (b + 1) ≤ 600000000000 := by omega
                  have hbd0 : 0 ≤ (sm : Int) + min e (b + 1) := by omega
                  clear hsu
                  go_wp2
                  go_roundw
                  case rel => exact ⟨sm + (min e (b + 1) - t).toNat, e, by rw [HSU.out], rfl, by omega, HU2.out, HKY.out⟩
                  case measure => simp; omega
                · obtain rfl : e = t := by have := HEN.out.ge; omega
                  have HI := Lib.hid (HEN.out.idle (by have := HN.out; omega))
                  have hNS := NxU.start f g (t := e) (B := b + 1) (by omega)
                  have HNS := Lib.hid hNS
                  clear hNS
                  go_wp2
                  go_loopw [15, 16] (fun ev jv wz => ∃ (j : Nat) (x : Int), j ≤ n ∧ jv = .int .i64 j ∧ ev = .int .i64 x ∧ NxU f g e (b + 1) j x ∧ Kept (fun _ => False) w1 wz) (fun _ i _ => match i with | .int _ x => (n - x).toNat | _ => 0)
                  case atStart => exact ⟨0, b + 1, Nat.zero_le _, rfl, rfl, HNS.out, HKY.out⟩
                  case round =>
                    obtain ⟨j2, x2, hj2, rfl, rfl, hnx, K⟩ := hrel
                    have HNX := Lib.hid hnx
                    have HKZ := Lib.hid K
                    have hx2 := hnx.gt
                    have hx3 := hnx.le
                    clear hnx K
                    by_cases hlt3 : j2 < n
                    · have hjf : j2 < f.length := by have := HN.out; omega
                      have hjg : j2 < g.length := by have := HM.out; omega
                      obtain ⟨b0, off, cap', hv, hb0, hcell⟩ := (HQ1.out.same HKZ.out).pos (by have := HN.out; omega)
                      rw [← HN.out] at hv
                      injection hv with e1 e2 e3
                      subst e1 e3
                      have c0 := IntsK.at hcell hjf
                      clear hcell e2
                      obtain ⟨b1, of1, ca1, hv, hb1, hcell⟩ := (HP1.out.same HKZ.out).pos (by have := HM.out; omega)
                      rw [← HM.out] at hv
                      injection hv with e1 e2 e3
                      subst e1 e3
                      have c1 := IntsK.at hcell hjg
                      clear hcell e2
                      have HX := Lib.hid (get_of hjf)
                      have HY := Lib.hid (get_of hjg)
                      generalize f[j2] = x at c0 HX
                      generalize g[j2] = y at c1 HY
                      by_cases h1 : e < x
                      · by_cases h2 : x < y
                        · have HE2 := Lib.hid (HNX.out.step (x := x) HX.out h1)
                          have hd1 : decide (e < x) = true := decide_eq_true h1
                          have hd2 : decide (x < y) = true := decide_eq_true h2
                          go_wp2
                          go_quiet (fail)
                          go_wp2
                          go_roundw
                          case rel => exact ⟨j2 + 1, min x2 x, by omega, by go_num, rfl, HE2.out, HKZ.out.drewN _⟩
                          case measure => simp; omega
                        · have HE2 := Lib.hid (HNX.out.pass HX.out HY.out (fun q => h2 q.2))
                          have hd1 : decide (e < x) = true := decide_eq_true h1
                          have hd2 : decide (x < y) = false := decide_eq_false h2
                          go_wp2
                          go_quiet (fail)
                          go_wp2
                          go_roundw
                          case rel => exact ⟨j2 + 1, x2, by omega, by go_num, rfl, HE2.out, HKZ.out.drewN _⟩
                          case measure => simp; omega
                      · have HE2 := Lib.hid (HNX.out.pass HX.out HY.out (fun q => h1 q.1))
                        have hd1 : decide (e < x) = false := decide_eq_false h1
                        go_wp2
                        go_quiet (fail)
                        go_wp2
                        go_roundw
                        case rel => exact ⟨j2 + 1, x2, by omega, by go_num, rfl, HE2.out, HKZ.out.drewN _⟩
                        case measure => simp; omega
                    · have HU2 := Lib.hid (HU.out.idle ht.1 hlt hx2 (fun s h1 h2 => HNX.out.idle (by have := HN.out; omega) HI.out h1 h2))
                      go_wp2
                      go_roundw
                      case rel => exact ⟨sm, x2, rfl, rfl, by omega, HU2.out, HKZ.out⟩
                      case measure => simp; omega
          · have HF : Hid (sm = busyF f g a b) := Lib.hid (HU.out.done (by omega))
            clear HU
            go_wp2
            go_ret2
            exact ⟨by rw [HE.out.1, HE.out.2, ← HF.out]; rfl, HK1.out.trans HK.out (fun _ _ h => h)⟩
  · have HE := Lib.hid (busyE_bad (a := a) (b := b) hr)
    obtain ⟨aa, cap, rfl⟩ := h.len
    obtain ⟨ab, cbp, rfl⟩ := k.len
    generalize f.length = n at HR ⊢
    generalize g.length = m at HR ⊢
    clear h k hl hl2
    obtain ⟨r, hrr⟩ : ∃ r, runsE f g = r := ⟨_, rfl⟩
    rw [hrr] at hr HR
    have HRR := Lib.hid hrr
    have hb : (r == 0) = false := by simpa using hr
    have hb2 : (r != 0) = true := by simpa using hr
    clear hrr
    go_enter Try.func26, Try.ntmps26
    go_wp2_with (go_at_call 43; refine HR.out.mono ?_; rintro e w1 ⟨rfl, K1⟩; have HK1 := Lib.hid K1; clear K1)
    go_ret2
    exact ⟨by rw [HE.out.1, HE.out.2, HRR.out]; rfl, HK1.out⟩
end Go.Proofs.Ytelgknecainlfaa

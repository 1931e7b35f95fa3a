/- WiWith2: texts for the statements of this seat: contracts of functions, walks, plain laws. Conditions: none. -/
import Derived.Test.YtelgknecainlfaaWiWith
set_option linter.all false
/- Within (both packages). -/
namespace Go.Proofs.Ytelgknecainlfaa
open Go.RowKit
open Wi (vld Srt chk longE)

noncomputable def withE (l : List Int) (a b : Int) : Int := if chk l ≠ 0 then chk l else if (vld a && vld b) = true then 0 else 14
noncomputable def withF (l : List Int) (a b : Int) : Nat := if withE l a b = 0 then cntIn a b l else 0
def WithPost (l : List Int) (a b : Int) (w : World) (e : Ending) (w' : World) : Prop := e = .returned (.tuple #[.int .i64 (withF l a b), .int .i64 (withE l a b)]) ∧ Kept (fun _ => False) w w'
theorem withE_ok {l : List Int} {a b : Int} (hc : chk l = 0) (ha : vld a = true) (hb : vld b = true) : withE l a b = 0 ∧ withF l a b = cntIn a b l := by
  have e : withE l a b = 0 := by unfold withE; rw [if_neg (by simp [hc]), if_pos (by simp [ha, hb])]
  exact ⟨e, by unfold withF; rw [if_pos e]⟩
theorem withE_bad {l : List Int} {a b : Int} (hc : chk l = 0) (h : (vld a && vld b) = false) : withE l a b = 14 ∧ withF l a b = 0 := by
  have e : withE l a b = 14 := by unfold withE; rw [if_neg (by simp [hc]), if_neg (by simp [h])]
  exact ⟨e, by unfold withF; rw [if_neg (by simp [e])]⟩
theorem withE_chk {l : List Int} {a b : Int} (hc : chk l ≠ 0) : withE l a b = chk l ∧ withF l a b = 0 := by
  have e : withE l a b = chk l := by unfold withE; rw [if_pos hc]
  exact ⟨e, by unfold withF; rw [if_neg (by simp [e, hc])]⟩
set_option maxRecDepth 100000 in
set_option maxHeartbeats 4000000 in
theorem within_c {w : World} {v : Value} {l : List Int} (h : Ints w v l) (hl : l.length ≤ 4611686018427387904) (a b : Int) : Calls Try.prog 29 #[v, .int .i64 a, .int .i64 b] w (WithPost l a b w) := by
  have HQ := Lib.hid h
  have HC := Lib.hid (check_c h hl)
  obtain ⟨aa, cap, rfl⟩ := h.len
  obtain ⟨n, hn⟩ : ∃ n : Nat, n = l.length := ⟨_, rfl⟩
  rw [← hn] at hl HC HQ ⊢
  have HN := Lib.hid hn
  clear h hn
  by_cases hc : chk l = 0
  · have hgood := Wi.chk_good.1 hc
    have hn5 : n ≤ 100000 := by have := hgood.len; have := HN.out; omega
    have HS := Lib.hid hgood.srt
    have HZ := Lib.hid hc
    clear hgood
    have HVA := Lib.hid (fun W => valid_c a W)
    have HVB := Lib.hid (fun W => valid_c b W)
    cases ha : vld a with
    | false =>
      have HE := Lib.hid (withE_bad (a := a) (b := b) hc (by rw [ha]; rfl))
      rw [ha] at HVA
      clear hc ha
      go_enter Try.func29, Try.ntmps29
      go_wp2_with (go_at_call 31; fail)
      refine HC.out.mono ?_
      rintro e w1 ⟨rfl, K1⟩
      rw [HZ.out]
      go_wp2_with (go_at_call 45; refine (HVA.out _).mono ?_; rintro e w' ⟨rfl, rfl⟩)
      go_ret2
      exact ⟨by rw [HE.out.1, HE.out.2]; rfl, K1⟩
    | true =>
      cases hb : vld b with
      | false =>
        have HE := Lib.hid (withE_bad (a := a) (b := b) hc (by rw [ha, hb]; rfl))
        rw [ha] at HVA
        rw [hb] at HVB
        clear hc ha hb
        go_enter Try.func29, Try.ntmps29
        go_wp2_with (go_at_call 31; fail)
        refine HC.out.mono ?_
        rintro e w1 ⟨rfl, K1⟩
        rw [HZ.out]
        go_wp2_with (go_at_call 45; first | (refine (HVA.out _).mono ?_; rintro e w' ⟨rfl, rfl⟩) | (refine (HVB.out _).mono ?_; rintro e w' ⟨rfl, rfl⟩))
        go_ret2
        exact ⟨by rw [HE.out.1, HE.out.2]; rfl, K1⟩
      | true =>
        have HE := Lib.hid (withE_ok hc ha hb)
        have hb1 := Wi.vld_iff.1 hb
        rw [ha] at HVA
        rw [hb] at HVB
        clear hc ha hb
        go_enter Try.func29, Try.ntmps29
        go_wp2_with (go_at_call 31; fail)
        refine HC.out.mono ?_
        rintro e w1 ⟨rfl, K1⟩
        rw [HZ.out]
        have HK1 := Lib.hid K1
        have HB1 := Lib.hid (bins_c (HQ.out.same K1) (by have := HN.out; omega) HS.out a)
        have HB2 := Lib.hid (bins_c (HQ.out.same K1) (by have := HN.out; omega) HS.out (b + 1))
        clear K1
        have hw : IntKind.i64.wrap (b + 1) = b + 1 := IntWalk.i64_in _ (by omega)
        go_wp2_with (first | (go_at_call 45; first | (refine (HVA.out _).mono ?_; rintro e w' ⟨rfl, rfl⟩) | (refine (HVB.out _).mono ?_; rintro e w' ⟨rfl, rfl⟩)) | (go_at_call 47; fail))
        refine HB1.out.mono ?_
        rintro e w2 ⟨p, f1, rfl, hp, h1, h2, rfl⟩
        have H1 := Lib.hid (And.intro h1 h2)
        clear h1 h2
        go_wp2_with (go_at_call 47; fail)
        refine HB2.out.mono ?_
        rintro e w2 ⟨r, f2, rfl, hr, h3, h4, rfl⟩
        have HR := Lib.hid (cntIn_part a b l p r hp hr H1.out.1 H1.out.2 h3 h4)
        have hp2 : p ≤ n := by have := HN.out; omega
        have hr2 : r ≤ n := by have := HN.out; omega
        clear h3 h4 hp hr
        by_cases hrp : (r : Int) - (p : Int) < 0
        · have HMX : Hid (r - p = 0) := Lib.hid (by omega)
          go_wp2
          go_ret2
          exact ⟨by rw [HE.out.1, HE.out.2, HR.out, HMX.out]; rfl, HK1.out⟩
        · have HMX : Hid (((r - p : Nat) : Int) = (r : Int) - (p : Int)) := Lib.hid (by omega)
          go_wp2
          go_ret2
          exact ⟨by rw [HE.out.1, HE.out.2, HR.out, HMX.out]; rfl, HK1.out⟩
  · have HE := Lib.hid (withE_chk (a := a) (b := b) hc)
    obtain ⟨r, hr⟩ : ∃ r, chk l = r := ⟨_, rfl⟩
    rw [hr] at hc
    have hb2 : (r != 0) = true := by simpa using hc
    have HRR := Lib.hid hr
    clear hr
    go_enter Try.func29, Try.ntmps29
    go_wp2_with (go_at_call 31; fail)
    refine HC.out.mono ?_
    rintro e w1 ⟨rfl, K1⟩
    rw [HRR.out]
    go_wp2
    go_ret2
    exact ⟨by rw [HE.out.1, HE.out.2, HRR.out]; rfl, K1⟩
end Go.Proofs.Ytelgknecainlfaa

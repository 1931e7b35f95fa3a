/- Contracts of valid and Check (both packages). -/
import Derived.Test.YtaedijppbghnaaaProg
import Derived.WalkKit
import Derived.WalkSpells
import Derived.WalkLawsBesides
import Derived.Lib.Hide
import Derived.Outline
import Derived.Deep.QuietTactic
import Derived.BigQuiet
import Derived.Test.YtaedijppbghnaaaGePair
import Derived.Test.YtaedijppbghnaaaBkChk
namespace Go.Proofs.Ytaedijppbghnaaa
open Go.RowKit
open Bk (Sp vld chk chk1 chkL)

theorem valid_c (t : Int) (w : World) : Calls Try.prog 39 #[.int .i64 t] w fun e w' => e = .returned (.bool (vld t)) ∧ w = w' := by
  by_cases h1 : 0 ≤ t
  · by_cases h2 : t ≤ 253402300799
    all_goals
      go_enter Try.func39, Try.ntmps39
      go_wp2
      go_ret
      exact ⟨by simp [vld, h1, h2], rfl⟩
  · go_enter Try.func39, Try.ntmps39
    go_wp2
    go_ret
    exact ⟨by simp [vld]; omega, rfl⟩

theorem valid_b (b : Bool) (t : Int) (w : World) (h : vld t = b) : Calls Try.prog 39 #[.int .i64 t] w fun e w' => e = .returned (.bool b) ∧ w = w' := h ▸ valid_c t w
theorem check_many {w : World} {v : Value} {l : List Sp} (h : Prs w v l) (hl : 64 < l.length) : Calls Try.prog 26 #[v] w fun e w' => e = .returned (.int .i64 (chk l)) ∧ Kept (fun _ => False) w w' := by
  obtain ⟨a, cap, rfl⟩ := h.len
  have hq : chk l = 12 := by unfold chk; rw [if_pos hl]
  have HQ := Lib.hid hq
  clear h hq
  generalize l.length = n at hl ⊢
  have hl2 : (64 : Int) < (n : Int) := by omega
  clear hl
  go_enter Try.func26, Try.ntmps26
  go_wp2
  go_ret
  exact ⟨by rw [HQ.out]; rfl, Kept.refl _ _⟩
set_option maxHeartbeats 1000000 in
theorem check_c {w : World} {v : Value} {l : List Sp} (h : Prs w v l) (h63 : (l.length : Int) ≤ 9223372036854775807) : Calls Try.prog 26 #[v] w fun e w' => e = .returned (.int .i64 (chk l)) ∧ Kept (fun _ => False) w w' := by
  by_cases hl : 64 < l.length
  · exact check_many h hl
  have hq : chk l = chkL l := by unfold chk; rw [if_neg hl]
  rw [hq]
  clear hq
  have HQ := Lib.hid h
  have HVL := Lib.hid valid_c
  obtain ⟨a, cap, rfl⟩ := h.len
  have hn : ∃ n : Nat, n = l.length := ⟨_, rfl⟩
  obtain ⟨n, hn⟩ := hn
  rw [← hn] at hl ⊢
  have hl2 : ¬ (64 : Int) < (n : Int) := by omega
  have HL := Lib.hid h63
  clear h h63 hl
  have HN := Lib.hid hn
  clear hn
  go_enter Try.func26, Try.ntmps26
  go_wp2
  go_loopw [10] (fun i wr => ∃ j : Nat, j ≤ n ∧ i = .int .i64 j ∧ chkL l = chkL (l.drop j) ∧ Kept (fun _ => False) w wr) (fun i _ => match i with | .int _ x => (n - x).toNat | _ => 0)
  case atStart => exact ⟨0, Nat.zero_le _, rfl, rfl, Kept.refl _ _⟩
  case round =>
    obtain ⟨j, hj, rfl, hc, K⟩ := hrel
    have HC := Lib.hid hc
    have HK := Lib.hid K
    clear hc K
    by_cases hlt : j < n
    · have hp : 0 < l.length := by have := HN.out; omega
      have hjl : j < l.length := by have := HN.out; omega
      obtain ⟨b, off, cap', hv, hb, hcell⟩ := (HQ.out.same HK.out).pos hp
      injection hv with e1 e2 e3
      subst e1 e3
      have c0 := (Prs.at hcell hjl).1
      have c1 := (Prs.at hcell hjl).2
      have hstep := Bk.chkL_get hjl
      have HS := Lib.hid hstep
      clear hcell hstep
      generalize hx : l[j] = x at c0 c1 HS
      clear hx
      obtain ⟨x0, x1⟩ := x
      have hK2 : Kept (fun _ => False) w (wr.alloc (.cells #[.int .i64 x0, .int .i64 x1] 42)) := HK.out.alloc _
      have HK2 := Lib.hid hK2
      clear hK2
      have hbad : ∀ r : Int, chk1 (x0, x1) = r → r ≠ 0 → chkL l = r := fun r h h' => by rw [HC.out, HS.out, h, if_neg h']
      have HB := Lib.hid hbad
      have HG := Lib.hid (fun h : chk1 (x0, x1) = 0 => show chkL l = chkL (l.drop (j + 1)) by rw [HC.out, HS.out, if_pos h])
      clear hbad
      rcases hv0 : vld x0 with _ | _
      · have HR := Lib.hid (HB.out 14 (by simp [chk1, hv0]) (by omega))
        have H0 := Lib.hid hv0
        clear hv0
        go_wp2_with (go_at_call 39; refine (valid_b false _ _ H0.out).mono ?_; rintro e w' ⟨rfl, rfl⟩)
        go_ret
        exact ⟨by rw [HR.out]; rfl, HK2.out⟩
      · rcases hv1 : vld x1 with _ | _
        · have HR := Lib.hid (HB.out 14 (by simp [chk1, hv0, hv1]) (by omega))
          have H0 := Lib.hid hv0
          have H1 := Lib.hid hv1
          clear hv0 hv1
          go_wp2_with (go_at_call 39; first | (refine (valid_b true _ _ H0.out).mono ?_; rintro e w' ⟨rfl, rfl⟩) | (refine (valid_b false _ _ H1.out).mono ?_; rintro e w' ⟨rfl, rfl⟩))
          go_ret
          exact ⟨by rw [HR.out]; rfl, HK2.out⟩
        · have H0 := Lib.hid hv0
          have H1 := Lib.hid hv1
          by_cases hgt : x1 < x0
          · have HR := Lib.hid (HB.out 8 (by simp [chk1, hv0, hv1, hgt]) (by omega))
            clear hv0 hv1
            go_wp2_with (go_at_call 39; refine (valid_b true _ _ (by first | exact H0.out | exact H1.out)).mono ?_; rintro e w' ⟨rfl, rfl⟩)
            go_ret
            exact ⟨by rw [HR.out]; rfl, HK2.out⟩
          · have HR := Lib.hid (HG.out (by simp [chk1, hv0, hv1, hgt]))
            clear hv0 hv1
            go_wp2_with (go_at_call 39; refine (valid_b true _ _ (by first | exact H0.out | exact H1.out)).mono ?_; rintro e w' ⟨rfl, rfl⟩)
            go_roundw
            case rel => exact ⟨j + 1, by omega, by simp, HR.out, HK2.out⟩
            case measure => simp; omega
    · have hjn : j = n := by omega
      have HR : chkL l = 0 := by rw [HC.out, List.drop_eq_nil_of_le (by have := HN.out; omega)]; rfl
      have HR := Lib.hid HR
      subst hjn
      go_wp2
      go_ret
      exact ⟨by rw [HR.out]; rfl, HK.out⟩
end Go.Proofs.Ytaedijppbghnaaa

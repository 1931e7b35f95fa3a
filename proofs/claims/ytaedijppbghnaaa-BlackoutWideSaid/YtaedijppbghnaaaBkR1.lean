/- The reference's valid, Check, Has and wanted. -/
import Derived.Test.YtaedijppbghnaaaBkWant
namespace Go.Proofs.Ytaedijppbghnaaa
open Go.RowKit
open Bk (Sp vld chk chk1 chkL has)

theorem rvalid_c (t : Int) (w : World) : Calls Try.prog 44 #[.int .i64 t] w fun e w' => e = .returned (.bool (vld t)) ∧ w = w' := by
  by_cases h1 : 0 ≤ t
  · by_cases h2 : t ≤ 253402300799
    all_goals
      go_enter Try.func44, Try.ntmps44
      go_wp2
      go_ret
      exact ⟨by simp [vld, h1, h2], rfl⟩
  · go_enter Try.func44, Try.ntmps44
    go_wp2
    go_ret
    exact ⟨by simp [vld]; omega, rfl⟩
theorem rvalid_b (b : Bool) (t : Int) (w : World) (h : vld t = b) : Calls Try.prog 44 #[.int .i64 t] w fun e w' => e = .returned (.bool b) ∧ w = w' := h ▸ rvalid_c t w
theorem rcheck_many {w : World} {v : Value} {l : List Sp} (h : Prs w v l) (hl : 64 < l.length) : Calls Try.prog 43 #[v] w fun e w' => e = .returned (.int .i64 (chk l)) ∧ Kept (fun _ => False) w w' := by
  obtain ⟨a, cap, rfl⟩ := h.len
  have hq : chk l = 12 := by unfold chk; rw [if_pos hl]
  have HQ := Lib.hid hq
  clear h hq
  generalize l.length = n at hl ⊢
  have hl2 : (64 : Int) < (n : Int) := by omega
  clear hl
  go_enter Try.func43, Try.ntmps43
  go_wp2
  go_ret
  exact ⟨by rw [HQ.out]; rfl, Kept.refl _ _⟩
set_option maxHeartbeats 2000000 in
theorem rcheck_c {w : World} {v : Value} {l : List Sp} (h : Prs w v l) : Calls Try.prog 43 #[v] w fun e w' => e = .returned (.int .i64 (chk l)) ∧ Kept (fun _ => False) w w' := by
  by_cases hl : 64 < l.length
  · exact rcheck_many h hl
  have hq : chk l = chkL l := by unfold chk; rw [if_neg hl]
  rw [hq]
  clear hq
  have HQ := Lib.hid h
  obtain ⟨a, cap, rfl⟩ := h.len
  have hn : ∃ n : Nat, n = l.length := ⟨_, rfl⟩
  obtain ⟨n, hn⟩ := hn
  rw [← hn] at hl ⊢
  have hl2 : ¬ (64 : Int) < (n : Int) := by omega
  clear h hl
  have HN := Lib.hid hn
  clear hn
  go_enter Try.func43, Try.ntmps43
  go_wp2
  go_loopw [3] (fun i wr => ∃ j : Nat, j ≤ n ∧ i = .int .i64 j ∧ chkL l = chkL (l.drop j) ∧ Kept (fun _ => False) w wr) (fun i _ => match i with | .int _ x => (n - x).toNat | _ => 0)
  case atStart => exact ⟨0, Nat.zero_le _, rfl, rfl, Kept.refl _ _⟩
  case round =>
    obtain ⟨j, hj, rfl, hc, K⟩ := hrel
    have HC := Lib.hid hc
    have HK := Lib.hid K
    clear hc K
    by_cases hlt : j < n
    · have hp : 0 < l.length := by have := HN.out; omega
      have hjl : j < l.length := by have := HN.out; omega
      obtain ⟨b, off, cap', hv, hb, hcell⟩ := (HQ.out.same HK.out).pos hp
      injection hv with e1 e2 e3
      subst e1 e3
      have c0 := (Prs.at hcell hjl).1
      have c1 := (Prs.at hcell hjl).2
      have hstep := Bk.chkL_get hjl
      have HS := Lib.hid hstep
      clear hcell hstep
      generalize hx : l[j] = x at c0 c1 HS
      clear hx
      obtain ⟨x0, x1⟩ := x
      simp only at c0 c1
      have hbad : ∀ r : Int, chk1 (x0, x1) = r → r ≠ 0 → chkL l = r := fun r h h' => by rw [HC.out, HS.out, h, if_neg h']
      have HB := Lib.hid hbad
      have HG := Lib.hid (fun h : chk1 (x0, x1) = 0 => show chkL l = chkL (l.drop (j + 1)) by rw [HC.out, HS.out, if_pos h])
      clear hbad
      rcases hv0 : vld x0 with _ | _
      · have HR := Lib.hid (HB.out 14 (by simp [chk1, hv0]) (by omega))
        have H0 := Lib.hid hv0
        clear hv0
        go_wp2_with (go_at_call 44; refine (rvalid_b false _ _ H0.out).mono ?_; rintro e w' ⟨rfl, rfl⟩)
        go_ret
        exact ⟨by rw [HR.out]; rfl, HK.out⟩
      · rcases hv1 : vld x1 with _ | _
        · have HR := Lib.hid (HB.out 14 (by simp [chk1, hv0, hv1]) (by omega))
          have H0 := Lib.hid hv0
          have H1 := Lib.hid hv1
          clear hv0 hv1
          go_wp2_with (go_at_call 44; first | (refine (rvalid_b true _ _ H0.out).mono ?_; rintro e w' ⟨rfl, rfl⟩) | (refine (rvalid_b false _ _ H1.out).mono ?_; rintro e w' ⟨rfl, rfl⟩))
          go_ret
          exact ⟨by rw [HR.out]; rfl, HK.out⟩
        · have H0 := Lib.hid hv0
          have H1 := Lib.hid hv1
          by_cases hgt : x1 < x0
          · have HR := Lib.hid (HB.out 8 (by simp [chk1, hv0, hv1, hgt]) (by omega))
            clear hv0 hv1
            go_wp2_with (go_at_call 44; refine (rvalid_b true _ _ (by first | exact H0.out | exact H1.out)).mono ?_; rintro e w' ⟨rfl, rfl⟩)
            go_quiet (fail)
            go_wp2
            go_ret
            exact ⟨by rw [HR.out]; rfl, HK.out.drewN _⟩
          · have HR := Lib.hid (HG.out (by simp [chk1, hv0, hv1, hgt]))
            clear hv0 hv1
            go_wp2_with (go_at_call 44; refine (rvalid_b true _ _ (by first | exact H0.out | exact H1.out)).mono ?_; rintro e w' ⟨rfl, rfl⟩)
            go_quiet (fail)
            go_wp2
            go_roundw
            case rel => exact ⟨j + 1, by omega, by go_num, HR.out, HK.out.drewN _⟩
            case measure => simp; omega
    · have hjn : j = n := by omega
      have HR : chkL l = 0 := by rw [HC.out, List.drop_eq_nil_of_le (by have := HN.out; omega)]; rfl
      have HR := Lib.hid HR
      subst hjn
      go_wp2
      go_ret
      exact ⟨by rw [HR.out]; rfl, HK.out⟩
set_option maxHeartbeats 1000000 in
theorem rhas_c {w : World} {v : Value} {l : List Sp} (h : Prs w v l) (h63 : l.length ≤ 4611686018427387904) (t : Int) : Calls Try.prog 49 #[v, .int .i64 t] w fun e w' => e = .returned (.bool (has l t)) ∧ Kept (fun _ => False) w w' := by
  have HQ := Lib.hid h
  obtain ⟨a, cap, rfl⟩ := h.len
  obtain ⟨n, hn⟩ : ∃ n : Nat, n = l.length := ⟨_, rfl⟩
  rw [← hn] at h63 ⊢
  have HN := Lib.hid hn
  clear h hn
  go_enter Try.func49, Try.ntmps49
  go_wp2
  go_loopw [5] (fun i wr => ∃ j : Nat, j ≤ n ∧ i = .int .i64 j ∧ has l t = has (l.drop j) t ∧ Kept (fun _ => False) w wr) (fun i _ => match i with | .int _ x => (n - x).toNat | _ => 0)
  case atStart => exact ⟨0, Nat.zero_le _, rfl, rfl, Kept.refl _ _⟩
  case round =>
    obtain ⟨j, hj, rfl, hc, K⟩ := hrel
    have HC := Lib.hid hc
    have HK := Lib.hid K
    clear hc K
    by_cases hlt : j < n
    · have hjl : j < l.length := by have := HN.out; omega
      obtain ⟨b0, off, cap', hv, hb, hcell⟩ := (HQ.out.same HK.out).pos (by omega)
      injection hv with e1 e2 e3
      subst e1 e3
      have c0 := (Prs.at hcell hjl).1
      have c1 := (Prs.at hcell hjl).2
      have hstep : has (l.drop j) t = (inS t l[j] || has (l.drop (j + 1)) t) := by rw [List.drop_eq_getElem_cons hjl, Bk.has_cons]; rfl
      have HS := Lib.hid hstep
      clear hcell hstep
      generalize l[j] = x at c0 c1 HS
      obtain ⟨x0, x1⟩ := x
      simp only at c0 c1
      have HI : Hid (inS t (x0, x1) = (decide (x0 ≤ t) && decide (t ≤ x1))) := Lib.hid rfl
      by_cases h1 : x0 ≤ t
      · by_cases h2 : t ≤ x1
        · have HR : Hid (has l t = true) := Lib.hid (by rw [HC.out, HS.out, HI.out]; simp [h1, h2])
          go_wp2
          go_ret
          exact ⟨by rw [HR.out]; rfl, HK.out⟩
        · have HR : Hid (has l t = has (l.drop (j + 1)) t) := Lib.hid (by rw [HC.out, HS.out, HI.out]; simp [h1, h2])
          go_wp2
          go_roundw
          case rel => exact ⟨j + 1, by omega, by go_num, HR.out, HK.out⟩
          case measure => simp; omega
      · have HR : Hid (has l t = has (l.drop (j + 1)) t) := Lib.hid (by rw [HC.out, HS.out, HI.out]; simp [h1])
        go_wp2
        go_roundw
        case rel => exact ⟨j + 1, by omega, by go_num, HR.out, HK.out⟩
        case measure => simp; omega
    · obtain rfl : n = j := by omega
      have HR : Hid (has l t = false) := Lib.hid (by rw [HC.out, List.drop_eq_nil_of_le (by have := HN.out; omega)]; rfl)
      go_wp2
      go_ret
      exact ⟨by rw [HR.out]; rfl, HK.out⟩
def wantK (k : Int) (x y : Bool) : Bool := if k = 1 then wOr x y else if k = 2 then wAnd x y else wNot x y
theorem wanted_c {w : World} {va vb : Value} {a b : List Sp} (ha : Prs w va a) (hb : Prs w vb b) (h63 : a.length ≤ 4611686018427387904) (g63 : b.length ≤ 4611686018427387904) (t k : Int) (hk : k = 1 ∨ k = 2 ∨ k = 3) :
    Calls Try.prog 55 #[va, vb, .int .i64 t, .int .i64 k] w fun e w' => e = .returned (.bool (wantK k (has a t) (has b t))) ∧ Kept (fun _ => False) w w' := by
  have HCA := Lib.hid (rhas_c ha h63 t)
  have HCB := Lib.hid (fun W K => rhas_c (w := W) (hb.same K) g63 t)
  obtain ⟨aa, ca, rfl⟩ := ha.len
  obtain ⟨ab, cb, rfl⟩ := hb.len
  clear ha hb h63 g63
  generalize has a t = x at HCA ⊢
  generalize has b t = y at HCB ⊢
  rcases hk with rfl | rfl | rfl <;> cases x <;> cases y <;>
  · go_enter Try.func55, Try.ntmps55
    go_wp2_with fail
    refine HCA.out.mono ?_
    rintro e w2 ⟨rfl, K⟩
    have HB2 := Lib.hid (HCB.out w2 K)
    go_wp2_with fail
    refine HB2.out.mono ?_
    rintro e w3 ⟨rfl, K2⟩
    go_wp2
    go_ret
    exact ⟨rfl, K.trans K2 (fun _ _ h => h)⟩
end Go.Proofs.Ytaedijppbghnaaa

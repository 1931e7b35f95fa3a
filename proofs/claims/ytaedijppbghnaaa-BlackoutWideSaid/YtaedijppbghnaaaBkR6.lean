/- The reference's Free and Length. -/
import Derived.Test.YtaedijppbghnaaaBkR5
namespace Go.Proofs.Ytaedijppbghnaaa
open Go.RowKit
open Bk (Sp has chk vld)

def rfreeT : List Sp → Int → Int
  | [], t => t
  | x :: r, t => rfreeT r (if inS t x = true then x.2 + 1 else t)
theorem rfreeT_off {l : List Sp} {t : Int} (h : ∀ x ∈ l, t < x.1) : rfreeT l t = t := by
  induction l with
  | nil => rfl
  | cons x r ih =>
    have hx := h x (.head _)
    rw [rfreeT, if_neg (by simp [inS]; omega)]
    exact ih fun y hy => h y (.tail _ hy)
theorem rfreeT_eq {l : List Sp} (h : Bk.Norm l) (t : Int) : rfreeT l t = freeT l t := by
  induction l generalizing t with
  | nil => rfl
  | cons x r ih =>
    rw [rfreeT, freeT]
    by_cases hi : inS t x = true
    · rw [if_pos hi, if_pos hi]
      exact rfreeT_off fun y hy => by have := h.head.2 y hy; omega
    · rw [if_neg hi, if_neg hi]
      exact ih h.tail t
theorem rfreeT_get {l : List Sp} {j : Nat} (hj : j < l.length) (t : Int) : rfreeT (l.drop j) t = rfreeT (l.drop (j + 1)) (if inS t l[j] = true then l[j].2 + 1 else t) := by
  rw [List.drop_eq_getElem_cons hj, rfreeT]
theorem rfree_bad {w : World} {v : Value} {l : List Sp} (h : Prs w v l) (t : Int) (hz : chk l ≠ 0) : Calls Try.prog 29 #[v, .int .i64 t] w (FreePost l t w) := by
  have hask : askE l t = chk l := by unfold askE; rw [if_pos hz]
  have HF : Hid (freeF l t = (0, false, chk l)) := Lib.hid (by unfold freeF; rw [hask, if_pos hz])
  have HA := Lib.hid (rcheck_c h)
  obtain ⟨a, cap, rfl⟩ := h.len
  obtain ⟨r, hr⟩ : ∃ r, chk l = r := ⟨_, rfl⟩
  rw [hr] at hz HF HA
  have hz2 : (r != 0) = true := by simpa using hz
  clear h hask hr
  go_enter Try.func29, Try.ntmps29
  go_wp2_with (go_at_call 43; refine HA.out.mono ?_; rintro e w2 ⟨rfl, K⟩)
  go_ret3
  exact ⟨by rw [HF.out]; rfl, K⟩
theorem rfree_bad2 {w : World} {v : Value} {l : List Sp} (h : Prs w v l) (t : Int) (hz : chk l = 0) (hv : vld t = false) : Calls Try.prog 29 #[v, .int .i64 t] w (FreePost l t w) := by
  have hask : askE l t = 14 := by unfold askE; rw [if_neg (by simp [hz]), hv]; rfl
  have HF : Hid (freeF l t = (0, false, 14)) := Lib.hid (by unfold freeF; rw [hask]; rfl)
  have HV := Lib.hid hv
  have HA := Lib.hid (rcheck_c h)
  obtain ⟨a, cap, rfl⟩ := h.len
  rw [hz] at HA
  clear h hask hz hv
  go_enter Try.func29, Try.ntmps29
  go_wp2_with (first | (go_at_call 43; refine HA.out.mono ?_; rintro e w2 ⟨rfl, K⟩) | (go_at_call 44; refine (rvalid_b false _ _ HV.out).mono ?_; rintro e w3 ⟨rfl, rfl⟩))
  go_ret3
  exact ⟨by rw [HF.out]; rfl, K⟩
set_option maxHeartbeats 2000000 in
theorem rfree_good {w : World} {v : Value} {l : List Sp} (h : Prs w v l) (z : Nz v) (t : Int) (hz : chk l = 0) (hv : vld t = true) : Calls Try.prog 29 #[v, .int .i64 t] w (FreePost l t w) := by
  have hask : askE l t = 0 := by unfold askE; rw [if_neg (by simp [hz]), hv]; rfl
  have HF : Hid (freeF l t = if vld (freeT (Bk.rres wOr l []) t) = true then (freeT (Bk.rres wOr l []) t, true, 0) else (0, false, 0)) := Lib.hid (by unfold freeF; rw [hask]; rfl)
  have HV := Lib.hid hv
  have HA := Lib.hid (rcheck_c h)
  have HW : Hid (wantK 1 = wOr) := Lib.hid (by funext x y; rfl)
  have HRR := Lib.hid (fun W K => rresult_c (w := W) (h.same K) (Prs.nil W none 0) z Nz.nil (chk_200 hz) (by simp) (Bk.chk_good.1 hz).2 Bk.Good.nil 1 (by omega))
  have hgood := rres_good (want := wOr) rfl (Bk.chk_good.1 hz).2 Bk.Good.nil
  have hlen : (Bk.rres wOr l []).length ≤ 130 := by have := rres_len wOr l []; have := (Bk.chk_good.1 hz).1; simp at *; omega
  have HG := Lib.hid hgood
  have HT : Hid (rfreeT (Bk.rres wOr l []) t = freeT (Bk.rres wOr l []) t) := Lib.hid (rfreeT_eq (Bk.rres_law wOr rfl l []).1 t)
  obtain ⟨a, cap, rfl⟩ := h.len
  rw [hz] at HA
  clear h hask hz hv z hgood
  obtain ⟨nl, hnl⟩ : ∃ nl, Bk.rres wOr l [] = nl := ⟨_, rfl⟩
  rw [hnl] at HF HG HT hlen
  have HNL := Lib.hid hnl
  clear hnl
  go_enter Try.func29, Try.ntmps29
  go_wp2_with (first | (go_at_call 43; refine HA.out.mono ?_; rintro e w2 ⟨rfl, K⟩) | (go_at_call 44; refine (rvalid_b true _ _ HV.out).mono ?_; rintro e w3 ⟨rfl, rfl⟩) | (go_at_call 45; fail))
  refine (HRR.out w2 K).mono ?_
  rintro e w3 ⟨vn, rfl, hv, -, -, K3⟩
  rw [HW.out, HNL.out] at hv
  have HQ := Lib.hid hv
  have HK0 := Lib.hid (K.trans K3 (fun _ _ h => h))
  obtain ⟨an, capn, rfl⟩ := hv.len
  obtain ⟨n, hn⟩ : ∃ n : Nat, nl.length = n := ⟨_, rfl⟩
  have HN := Lib.hid hn
  rw [hn] at hlen ⊢
  clear hv K K3 HA HRR hn HNL HW
  go_wp2
  go_loopw [1, 9] (fun s i wr => ∃ (j : Nat) (u : Int), j ≤ n ∧ i = .int .i64 j ∧ s = .int .i64 u ∧ rfreeT (nl.drop j) u = freeT nl t ∧ Kept (fun _ => False) w3 wr) (fun _ i _ => match i with | .int _ x => (n - x).toNat | _ => 0)
  case atStart => exact ⟨0, t, Nat.zero_le _, rfl, rfl, HT.out, Kept.refl _ _⟩
  case round =>
    obtain ⟨j, u, hj, rfl, rfl, hc, K⟩ := hrel
    have HC := Lib.hid hc
    have HK := Lib.hid K
    clear K hc
    by_cases hlt : j < n
    · have hjl : j < nl.length := by have := HN.out; omega
      obtain ⟨b0, off, cap', hv, hb, hcell⟩ := (HQ.out.same HK.out).pos (by omega)
      injection hv with e1 e2 e3
      subst e1 e3
      have c0 := (Prs.at hcell hjl).1
      have c1 := (Prs.at hcell hjl).2
      have hs := rfreeT_get hjl u
      have hb1 := HG.out.hi nl[j] (List.getElem_mem hjl)
      have hb2 := HG.out.lo nl[j] (List.getElem_mem hjl)
      have hb3 := HG.out.le nl[j] (List.getElem_mem hjl)
      clear hcell
      generalize nl[j] = x at c0 c1 hs hb1 hb2 hb3
      have HS := Lib.hid hs
      clear hs
      obtain ⟨x0, x1⟩ := x
      simp only at c0 c1 hb1 hb2 hb3
      have HIN : Hid (inS u (x0, x1) = (decide (x0 ≤ u) && decide (u ≤ x1))) := Lib.hid rfl
      by_cases h1 : x0 ≤ u
      · by_cases h2 : u ≤ x1
        · have HR : Hid (rfreeT (nl.drop (j + 1)) (x1 + 1) = freeT nl t) := Lib.hid (by rw [← HC.out, HS.out, if_pos (by rw [HIN.out]; simp [h1, h2])])
          go_wp2
          go_roundw
          case rel => exact ⟨j + 1, x1 + 1, by omega, by go_num, rfl, HR.out, HK.out⟩
          case measure => simp; omega
        · have HR : Hid (rfreeT (nl.drop (j + 1)) u = freeT nl t) := Lib.hid (by rw [← HC.out, HS.out, if_neg (by rw [HIN.out]; simp [h2])])
          go_wp2
          go_roundw
          case rel => exact ⟨j + 1, u, by omega, by go_num, rfl, HR.out, HK.out⟩
          case measure => simp; omega
      · have HR : Hid (rfreeT (nl.drop (j + 1)) u = freeT nl t) := Lib.hid (by rw [← HC.out, HS.out, if_neg (by rw [HIN.out]; simp [h1])])
        go_wp2
        go_roundw
        case rel => exact ⟨j + 1, u, by omega, by go_num, rfl, HR.out, HK.out⟩
        case measure => simp; omega
    · have HR : Hid (u = freeT nl t) := Lib.hid (by rw [← HC.out, List.drop_eq_nil_of_le (by have := HN.out; omega)]; rfl)
      rw [← HR.out] at HF
      cases hvv : vld u with
      | true =>
        have HVV := Lib.hid hvv
        have HF2 : Hid (freeF l t = (u, true, 0)) := Lib.hid (by rw [HF.out, if_pos HVV.out])
        clear hvv
        go_wp2_with (go_at_call 44; refine (rvalid_b true _ _ HVV.out).mono ?_; rintro e w4 ⟨rfl, rfl⟩)
        go_ret3
        exact ⟨by rw [HF2.out]; rfl, HK0.out.trans HK.out (fun _ _ h => h)⟩
      | false =>
        have HVV := Lib.hid hvv
        have HF2 : Hid (freeF l t = (0, false, 0)) := Lib.hid (by rw [HF.out, HVV.out]; rfl)
        clear hvv
        go_wp2_with (go_at_call 44; refine (rvalid_b false _ _ HVV.out).mono ?_; rintro e w4 ⟨rfl, rfl⟩)
        go_ret3
        exact ⟨by rw [HF2.out]; rfl, HK0.out.trans HK.out (fun _ _ h => h)⟩
theorem rfree_c {w : World} {v : Value} {l : List Sp} (h : Prs w v l) (z : Nz v) (t : Int) : Calls Try.prog 29 #[v, .int .i64 t] w (FreePost l t w) := by
  by_cases hz : chk l = 0
  · cases hv : vld t with
    | false => exact rfree_bad2 h t hz hv
    | true => exact rfree_good h z t hz hv
  · exact rfree_bad h t hz
theorem rlength_bad {w : World} {v : Value} {l : List Sp} (h : Prs w v l) (a b : Int) (hz : chk l ≠ 0) : Calls Try.prog 19 #[v, .int .i64 a, .int .i64 b] w (LenPost l a b w) := by
  have hE : lenE l a b = chk l := by unfold lenE; rw [if_pos hz]
  have HE := Lib.hid hE
  have HF : Hid (lenF l a b = 0) := Lib.hid (by unfold lenF; rw [hE, if_neg hz])
  have HC := Lib.hid (rcheck_c h)
  obtain ⟨p, cap, rfl⟩ := h.len
  obtain ⟨r, hr⟩ : ∃ r, chk l = r := ⟨_, rfl⟩
  rw [hr] at hz HE HC
  have hz2 : (r != 0) = true := by simpa using hz
  clear h hE hr
  go_enter Try.func19, Try.ntmps19
  go_wp2_with (go_at_call 43; refine HC.out.mono ?_; rintro e w2 ⟨rfl, K⟩)
  go_ret2
  exact ⟨by rw [HF.out, HE.out]; rfl, K⟩
set_option maxHeartbeats 1000000 in
theorem rlength_bad2 {w : World} {v : Value} {l : List Sp} (h : Prs w v l) (a b : Int) (hz : chk l = 0) (hv : (!vld a || !vld b) = true) : Calls Try.prog 19 #[v, .int .i64 a, .int .i64 b] w (LenPost l a b w) := by
  have hE : lenE l a b = 14 := by unfold lenE; rw [if_neg (by simp [hz]), if_pos hv]
  have HE := Lib.hid hE
  have HF : Hid (lenF l a b = 0) := Lib.hid (by unfold lenF; rw [hE]; rfl)
  have HC := Lib.hid (rcheck_c h)
  obtain ⟨p, cap, rfl⟩ := h.len
  rw [hz] at HC
  clear h hE hz
  cases h1 : vld a with
  | false =>
    have H1 := Lib.hid h1
    clear hv h1
    go_enter Try.func19, Try.ntmps19
    go_wp2_with (first | (go_at_call 43; refine HC.out.mono ?_; rintro e w2 ⟨rfl, K⟩) | (go_at_call 44; refine (rvalid_b false _ _ H1.out).mono ?_; rintro e w3 ⟨rfl, rfl⟩))
    go_ret2
    exact ⟨by rw [HF.out, HE.out]; rfl, K⟩
  | true =>
    have h2 : vld b = false := by simpa [h1] using hv
    have H1 := Lib.hid h1
    have H2 := Lib.hid h2
    clear hv h1 h2
    go_enter Try.func19, Try.ntmps19
    go_wp2_with (first | (go_at_call 43; refine HC.out.mono ?_; rintro e w2 ⟨rfl, K⟩) | (go_at_call 44; refine (rvalid_b true _ _ H1.out).mono ?_; rintro e w3 ⟨rfl, rfl⟩) | (go_at_call 44; refine (rvalid_b false _ _ H2.out).mono ?_; rintro e w3 ⟨rfl, rfl⟩))
    go_ret2
    exact ⟨by rw [HF.out, HE.out]; rfl, K⟩
set_option maxHeartbeats 1000000 in
theorem rlength_bad3 {w : World} {v : Value} {l : List Sp} (h : Prs w v l) (a b : Int) (hz : chk l = 0) (h1 : vld a = true) (h2 : vld b = true) (hab : b < a) : Calls Try.prog 19 #[v, .int .i64 a, .int .i64 b] w (LenPost l a b w) := by
  have hE : lenE l a b = 8 := by unfold lenE; rw [if_neg (by simp [hz]), if_neg (by simp [h1, h2]), if_pos hab]
  have HE := Lib.hid hE
  have HF : Hid (lenF l a b = 0) := Lib.hid (by unfold lenF; rw [hE]; rfl)
  have HC := Lib.hid (rcheck_c h)
  obtain ⟨p, cap, rfl⟩ := h.len
  rw [hz] at HC
  have H1 := Lib.hid h1
  have H2 := Lib.hid h2
  clear h hE hz h1 h2
  go_enter Try.func19, Try.ntmps19
  go_wp2_with (first | (go_at_call 43; refine HC.out.mono ?_; rintro e w2 ⟨rfl, K⟩) | (go_at_call 44; refine (rvalid_b true _ _ (by first | exact H1.out | exact H2.out)).mono ?_; rintro e w3 ⟨rfl, rfl⟩))
  go_ret2
  exact ⟨by rw [HF.out, HE.out]; rfl, K⟩
set_option maxHeartbeats 2000000 in
theorem rlength_good {w : World} {v : Value} {l : List Sp} (h : Prs w v l) (z : Nz v) (a b : Int) (hz : chk l = 0) (h1 : vld a = true) (h2 : vld b = true) (hab : ¬ b < a) : Calls Try.prog 19 #[v, .int .i64 a, .int .i64 b] w (LenPost l a b w) := by
  have hE : lenE l a b = 0 := by unfold lenE; rw [if_neg (by simp [hz]), if_neg (by simp [h1, h2]), if_neg hab]
  have HE := Lib.hid hE
  have HF : Hid (lenF l a b = lenS (Bk.rres wAnd l [(a, b)])) := Lib.hid (by unfold lenF; rw [hE]; rfl)
  have hone := chk_one h1 h2 hab
  have hgood := rres_good (want := wAnd) rfl (Bk.chk_good.1 hz).2 (Bk.chk_good.1 hone).2
  have hlen : (Bk.rres wAnd l [(a, b)]).length ≤ 130 := by have := rres_len wAnd l [(a, b)]; have := (Bk.chk_good.1 hz).1; simp at *; omega
  have HG := Lib.hid hgood
  have HC := Lib.hid (rcheck_c h)
  have HW : Hid (wantK 2 = wAnd) := Lib.hid (by funext x y; rfl)
  have HM := Lib.hid (fun w1 (K : Kept (fun _ => False) w w1) => rresult_c (w := w1.alloc (.cells #[.int .i64 a, .int .i64 b] 42)) (vb := .slice (some ⟨w1.heap.size, 0, none⟩) 1 1) (b := [(a, b)]) (h.same (K.alloc _)) (Prs.new [(a, b)] rfl rfl rfl) z (Nz.some _ _ _) (chk_200 hz) (chk_200 hone) (Bk.chk_good.1 hz).2 (Bk.chk_good.1 hone).2 2 (by omega))
  obtain ⟨p, cap, rfl⟩ := h.len
  rw [hz] at HC
  have H1 := Lib.hid h1
  have H2 := Lib.hid h2
  clear h hE hz h1 h2 hone hgood z
  obtain ⟨nl, hnl⟩ : ∃ nl, Bk.rres wAnd l [(a, b)] = nl := ⟨_, rfl⟩
  rw [hnl] at HF HG hlen
  have HNL := Lib.hid hnl
  clear hnl
  go_enter Try.func19, Try.ntmps19
  go_wp2_with (first | (go_at_call 43; refine HC.out.mono ?_; rintro e w2 ⟨rfl, K⟩) | (go_at_call 44; refine (rvalid_b true _ _ (by first | exact H1.out | exact H2.out)).mono ?_; rintro e w3 ⟨rfl, rfl⟩) | (go_at_call 45; fail))
  refine (HM.out w2 K).mono ?_
  rintro e w3 ⟨vn, rfl, hv, -, -, K3⟩
  rw [HW.out, HNL.out] at hv
  have HQ := Lib.hid hv
  have HK0 := Lib.hid ((K.alloc (.cells #[.int .i64 a, .int .i64 b] 42)).trans K3 (fun _ _ h => h))
  obtain ⟨an, capn, rfl⟩ := hv.len
  obtain ⟨n, hn⟩ : ∃ n : Nat, nl.length = n := ⟨_, rfl⟩
  have HN := Lib.hid hn
  rw [hn] at hlen ⊢
  clear hv K K3 HC HM hn HNL
  go_wp2
  go_loopw [10, 11] (fun s i wr => ∃ j : Nat, j ≤ n ∧ i = .int .i64 j ∧ s = .int .i64 (lenS (nl.take j)) ∧ Kept (fun _ => False) w3 wr) (fun _ i _ => match i with | .int _ x => (n - x).toNat | _ => 0)
  case atStart => exact ⟨0, Nat.zero_le _, rfl, rfl, Kept.refl _ _⟩
  case round =>
    obtain ⟨j, hj, rfl, rfl, K⟩ := hrel
    have HK := Lib.hid K
    clear K
    by_cases hlt : j < n
    · have hjl : j < nl.length := by have := HN.out; omega
      obtain ⟨b0, off, cap', hv, hb, hcell⟩ := (HQ.out.same HK.out).pos (by omega)
      injection hv with e1 e2 e3
      subst e1 e3
      have c0 := (Prs.at hcell hjl).1
      have c1 := (Prs.at hcell hjl).2
      have hs := lenS_snoc hjl
      have hbd := lenS_bd (good_take HG.out j)
      have hb1 := HG.out.hi nl[j] (List.getElem_mem hjl)
      have hb2 := HG.out.lo nl[j] (List.getElem_mem hjl)
      have hb3 := HG.out.le nl[j] (List.getElem_mem hjl)
      have htl : (nl.take j).length ≤ 130 := by rw [List.length_take]; omega
      clear hcell
      generalize nl[j] = x at c0 c1 hs hb1 hb2 hb3
      have HS := Lib.hid hs
      clear hs
      generalize lenS (nl.take j) = y at hbd HS ⊢
      obtain ⟨x0, x1⟩ := x
      simp only at c0 c1 hb1 hb2 hb3
      have hy : 0 ≤ y ∧ y ≤ 253402300800 * 130 := ⟨hbd.1, by have := hbd.2; omega⟩
      clear hbd htl
      have hi1 : IntKind.i64.wrap (y + x1) = y + x1 := IntWalk.i64_in _ (by omega)
      have hi2 : IntKind.i64.wrap (y + x1 - x0) = y + x1 - x0 := IntWalk.i64_in _ (by omega)
      have hi3 : IntKind.i64.wrap (y + x1 - x0 + 1) = y + x1 - x0 + 1 := IntWalk.i64_in _ (by omega)
      go_wp2
      go_quiet (fail)
      go_wp2
      go_roundw
      case rel => exact ⟨j + 1, by omega, by go_num, by rw [HS.out]; congr 1; omega, HK.out.drewN _⟩
      case measure => simp; omega
    · obtain rfl : n = j := by omega
      have HT : Hid (nl.take n = nl) := Lib.hid (List.take_of_length_le (by have := HN.out; omega))
      rw [HT.out]
      go_wp2
      go_ret2
      exact ⟨by rw [HF.out, HE.out]; rfl, HK0.out.trans HK.out (fun _ _ h => h)⟩
theorem rlength_c {w : World} {v : Value} {l : List Sp} (h : Prs w v l) (z : Nz v) (a b : Int) : Calls Try.prog 19 #[v, .int .i64 a, .int .i64 b] w (LenPost l a b w) := by
  by_cases hz : chk l = 0
  · by_cases hv : (!vld a || !vld b) = true
    · exact rlength_bad2 h a b hz hv
    · have h1 : vld a = true := by cases h : vld a <;> simp_all
      have h2 : vld b = true := by cases h : vld b <;> simp_all
      by_cases hab : b < a
      · exact rlength_bad3 h a b hz h1 h2 hab
      · exact rlength_good h z a b hz h1 h2 hab
  · exact rlength_bad h a b hz
end Go.Proofs.Ytaedijppbghnaaa

/- Length, the good case. -/
import Derived.Test.YtaedijppbghnaaaBkLen
namespace Go.Proofs.Ytaedijppbghnaaa
open Go.RowKit Go.Shelf
open Bk (Sp chk vld has)

theorem chk_one {a b : Int} (h1 : vld a = true) (h2 : vld b = true) (hab : ¬ b < a) : chk [(a, b)] = 0 := by
  unfold Bk.vld at h1 h2
  simp at h1 h2
  exact Bk.chk_good.2 ⟨by simp, by simp; omega, by simp; omega, by simp; omega⟩
set_option maxHeartbeats 2000000 in
theorem length_good {w : World} {v : Value} {l : List Sp} (h : Prs w v l) (h63 : (l.length : Int) ≤ 9223372036854775807) (a b : Int) (hz : chk l = 0) (h1 : vld a = true) (h2 : vld b = true) (hab : ¬ b < a) : Calls Try.prog 16 #[v, .int .i64 a, .int .i64 b] w (LenPost l a b w) := by
  have hE : lenE l a b = 0 := by unfold lenE; rw [if_neg (by simp [hz]), if_neg (by simp [h1, h2]), if_neg hab]
  have HE := Lib.hid hE
  have HF : Hid (lenF l a b = lenS (Bk.rres wAnd l [(a, b)])) := Lib.hid (by unfold lenF; rw [hE]; rfl)
  have hone := chk_one h1 h2 hab
  have herr : err2 l [(a, b)] = 0 := by unfold err2; rw [if_neg (by simp [hz]), hone]
  have HR := Lib.hid herr
  have hgood := rres_good (want := wAnd) rfl (Bk.chk_good.1 hz).2 (Bk.chk_good.1 hone).2
  have hlen : (Bk.rres wAnd l [(a, b)]).length ≤ 130 := by have := rres_len wAnd l [(a, b)]; have := (Bk.chk_good.1 hz).1; simp at *; omega
  have HG := Lib.hid hgood
  have hc := check_c h h63
  have hm := fun w1 (K : Kept (fun _ => False) w w1) => op14_c (w := w1.alloc (.cells #[.int .i64 a, .int .i64 b] 42)) (vb := .slice (some ⟨w1.heap.size, 0, none⟩) 1 1) (b := [(a, b)]) (h.same (K.alloc _)) (Prs.new [(a, b)] rfl rfl rfl) h63 (by simp)
  obtain ⟨p, cap, rfl⟩ := h.len
  rw [hz] at hc
  have HC := Lib.hid hc
  have HM := Lib.hid hm
  have H1 := Lib.hid h1
  have H2 := Lib.hid h2
  clear hc hm h h63 hE hz h1 h2 hone herr hgood
  obtain ⟨nl, hnl⟩ : ∃ nl, Bk.rres wAnd l [(a, b)] = nl := ⟨_, rfl⟩
  rw [hnl] at HF HG hlen
  have HNL := Lib.hid hnl
  clear hnl
  go_enter Try.func16, Try.ntmps16
  go_wp2_with (first | (go_at_call 26; refine HC.out.mono ?_; rintro e w2 ⟨rfl, K⟩) | (go_at_call 39; refine (valid_b true _ _ (by first | exact H1.out | exact H2.out)).mono ?_; rintro e w3 ⟨rfl, rfl⟩) | (go_at_call 14; fail))
  refine (HM.out w2 K).mono ?_
  rintro e w3 ⟨vn, rfl, hv, -, K3⟩
  rw [HR.out, if_pos rfl, HNL.out] at hv
  rw [HR.out]
  have HQ := Lib.hid hv
  have HK0 := Lib.hid ((K.alloc (.cells #[.int .i64 a, .int .i64 b] 42)).trans K3 (fun _ _ h => h))
  obtain ⟨an, capn, rfl⟩ := hv.len
  obtain ⟨n, hn⟩ : ∃ n : Nat, nl.length = n := ⟨_, rfl⟩
  have HN := Lib.hid hn
  rw [hn] at hlen ⊢
  clear hv K K3 HC HM hn HNL
  go_wp2
  go_loopw [11, 43] (fun s i wr => ∃ j : Nat, j ≤ n ∧ i = .int .i64 j ∧ s = .int .i64 (lenS (nl.take j)) ∧ Kept (fun _ => False) w3 wr) (fun _ i _ => match i with | .int _ x => (n - x).toNat | _ => 0)
  case atStart => exact ⟨0, Nat.zero_le _, rfl, rfl, Kept.refl _ _⟩
  case round =>
    obtain ⟨j, hj, rfl, rfl, K⟩ := hrel
    have HK := Lib.hid K
    clear K
    by_cases hlt : j < n
    · have hjl : j < nl.length := by have := HN.out; omega
      obtain ⟨b0, off, cap', hv, hb, hcell⟩ := (HQ.out.same HK.out).pos (by omega)
      injection hv with e1 e2 e3
      subst e1 e3
      have c0 := (Prs.at hcell hjl).1
      have c1 := (Prs.at hcell hjl).2
      have hs := lenS_snoc hjl
      have hbd := lenS_bd (good_take HG.out j)
      have hb1 := HG.out.hi nl[j] (List.getElem_mem hjl)
      have hb2 := HG.out.lo nl[j] (List.getElem_mem hjl)
      have hb3 := HG.out.le nl[j] (List.getElem_mem hjl)
      have htl : (nl.take j).length ≤ 130 := by rw [List.length_take]; omega
      clear hcell
      generalize nl[j] = x at c0 c1 hs hb1 hb2 hb3
      have HS := Lib.hid hs
      clear hs
      generalize lenS (nl.take j) = y at hbd HS ⊢
      obtain ⟨x0, x1⟩ := x
      simp only at c0 c1 hb1 hb2 hb3
      have hy : 0 ≤ y ∧ y ≤ 253402300800 * 130 := ⟨hbd.1, by have := hbd.2; omega⟩
      clear hbd htl
      have KA := Lib.hid (HK.out.alloc (.cells #[.int .i64 x0, .int .i64 x1] 42))
      go_wp2
      go_roundw
      case rel => exact ⟨j + 1, by omega, by go_num, by rw [HS.out], KA.out⟩
      case measure => simp; omega
    · obtain rfl : n = j := by omega
      have HT : Hid (nl.take n = nl) := Lib.hid (List.take_of_length_le (by have := HN.out; omega))
      rw [HT.out]
      go_wp2
      go_ret2
      exact ⟨by rw [HF.out, HE.out]; rfl, HK0.out.trans HK.out (fun _ _ h => h)⟩
theorem length_c {w : World} {v : Value} {l : List Sp} (h : Prs w v l) (h63 : (l.length : Int) ≤ 9223372036854775807) (a b : Int) : Calls Try.prog 16 #[v, .int .i64 a, .int .i64 b] w (LenPost l a b w) := by
  by_cases hz : chk l = 0
  · by_cases hv : (!vld a || !vld b) = true
    · exact length_bad2 h h63 a b hz hv
    · have h1 : vld a = true := by cases h : vld a <;> simp_all
      have h2 : vld b = true := by cases h : vld b <;> simp_all
      by_cases hab : b < a
      · exact length_bad3 h h63 a b hz h1 h2 hab
      · exact length_good h h63 a b hz h1 h2 hab
  · exact length_bad h h63 a b hz
end Go.Proofs.Ytaedijppbghnaaa

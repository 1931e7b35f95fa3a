/- The reference's two, Union, Meet, Without, Normal, In. -/
import Derived.Test.YtaedijppbghnaaaBkR4
import Derived.Test.YtaedijppbghnaaaBkAsk
import Derived.Test.YtaedijppbghnaaaBkLen2
namespace Go.Proofs.Ytaedijppbghnaaa
open Go.RowKit
open Bk (Sp has chk vld)

theorem chk_200 {l : List Sp} (h : chk l = 0) : l.length ≤ 200 := by have := (Bk.chk_good.1 h).1; omega
theorem two_c {w : World} {va vb : Value} {a b : List Sp} (ha : Prs w va a) (hb : Prs w vb b) (za : Nz va) (zb : Nz vb) (k : Int) (hk : k = 1 ∨ k = 2 ∨ k = 3) :
    Calls Try.prog 50 #[va, vb, .int .i64 k] w (ResPost (wantK k) a b w) := by
  have HA := Lib.hid (rcheck_c ha)
  have HB := Lib.hid (fun W K => rcheck_c (w := W) (hb.same K))
  have HR := Lib.hid (fun W K h1 h2 => rresult_c (w := W) (ha.same K) (hb.same K) za zb (chk_200 h1) (chk_200 h2) (Bk.chk_good.1 h1).2 (Bk.chk_good.1 h2).2 k hk)
  have HE : Hid (err2 a b = if chk a ≠ 0 then chk a else chk b) := Lib.hid rfl
  obtain ⟨aa, ca, rfl⟩ := ha.len
  obtain ⟨ab, cb, rfl⟩ := hb.len
  clear ha hb za zb hk
  by_cases h1 : chk a = 0
  · by_cases h2 : chk b = 0
    · have HE0 : Hid (err2 a b = 0) := Lib.hid (by rw [HE.out, if_neg (by simp [h1])]; exact h2)
      have H1 := Lib.hid h1
      have H2 := Lib.hid h2
      rw [h1] at HA
      rw [h2] at HB
      clear h1 h2
      go_enter Try.func50, Try.ntmps50
      go_wp2_with (go_at_call 43; fail)
      refine HA.out.mono ?_
      rintro e w2 ⟨rfl, K⟩
      go_wp2_with (go_at_call 43; fail)
      refine (HB.out w2 K).mono ?_
      rintro e w3 ⟨rfl, K3⟩
      have KK := Lib.hid (K.trans K3 (fun _ _ h => h))
      go_wp2_with (go_at_call 45; fail)
      refine (HR.out w3 KK.out H1.out H2.out).mono ?_
      rintro e w4 ⟨v, rfl, hv, ho, -, K4⟩
      have HF : Hid (Prs w4 v (if err2 a b = 0 then Bk.rres (wantK k) a b else [])) := Lib.hid (by rw [if_pos HE0.out]; exact hv)
      have HO : Hid (∀ c, v.ownBlock = some c → w.heap.size ≤ c) := Lib.hid fun c hc => Nat.le_trans KK.out.size (ho c hc)
      have HK := Lib.hid (KK.out.trans K4 (fun _ _ h => h))
      clear hv ho K4
      go_wp2
      go_ret2
      exact ⟨v, by rw [HE0.out]; rfl, HF.out, HO.out, HK.out⟩
    · have HE0 : Hid (err2 a b = chk b) := Lib.hid (by rw [HE.out, if_neg (by simp [h1])])
      rw [h1] at HA
      have H2 := Lib.hid h2
      obtain ⟨r, hr⟩ : ∃ r, chk b = r := ⟨_, rfl⟩
      rw [hr] at HB HE0 h2
      have hz : (r == 0) = false := by simpa using h2
      have hz2 : (r != 0) = true := by simpa using h2
      clear h1 h2 hr H2
      go_enter Try.func50, Try.ntmps50
      go_wp2_with (go_at_call 43; fail)
      refine HA.out.mono ?_
      rintro e w2 ⟨rfl, K⟩
      go_wp2_with (go_at_call 43; fail)
      refine (HB.out w2 K).mono ?_
      rintro e w3 ⟨rfl, K3⟩
      have KK := Lib.hid (K.trans K3 (fun _ _ h => h))
      go_wp2
      go_ret2
      exact ⟨.slice none 0 0, by rw [HE0.out]; rfl, by rw [HE0.out, if_neg (by simpa using hz2)]; exact Prs.nil _ _ _, fun c hc => by simp [Value.ownBlock] at hc, KK.out⟩
  · have HE0 : Hid (err2 a b = chk a) := Lib.hid (by rw [HE.out, if_pos h1])
    obtain ⟨r, hr⟩ : ∃ r, chk a = r := ⟨_, rfl⟩
    rw [hr] at HA HE0 h1
    have hz : (r == 0) = false := by simpa using h1
    have hz2 : (r != 0) = true := by simpa using h1
    clear h1 hr
    go_enter Try.func50, Try.ntmps50
    go_wp2_with (go_at_call 43; fail)
    refine HA.out.mono ?_
    rintro e w2 ⟨rfl, K⟩
    have KK := Lib.hid K
    go_wp2
    go_ret2
    exact ⟨.slice none 0 0, by rw [HE0.out]; rfl, by rw [HE0.out, if_neg (by simpa using hz2)]; exact Prs.nil _ _ _, fun c hc => by simp [Value.ownBlock] at hc, KK.out⟩
theorem op30_c {w : World} {va vb : Value} {a b : List Sp} (ha : Prs w va a) (hb : Prs w vb b) (za : Nz va) (zb : Nz vb) :
    Calls Try.prog 30 #[va, vb] w (ResPost wOr a b w) := by
  have HC := Lib.hid (two_c ha hb za zb 1 (by omega))
  have HW : Hid (wantK 1 = wOr) := Lib.hid (by funext x y; rfl)
  rw [HW.out] at HC
  obtain ⟨aa, ca, rfl⟩ := ha.len
  obtain ⟨ab, cb, rfl⟩ := hb.len
  clear ha hb za zb
  go_enter Try.func30, Try.ntmps30
  go_wp2_with (go_at_call 50; refine HC.out.mono ?_; rintro e w2 ⟨v, rfl, hv, ho, K⟩)
  go_ret2
  exact ⟨v, rfl, hv, ho, K⟩
theorem op31_c {w : World} {va vb : Value} {a b : List Sp} (ha : Prs w va a) (hb : Prs w vb b) (za : Nz va) (zb : Nz vb) :
    Calls Try.prog 31 #[va, vb] w (ResPost wAnd a b w) := by
  have HC := Lib.hid (two_c ha hb za zb 2 (by omega))
  have HW : Hid (wantK 2 = wAnd) := Lib.hid (by funext x y; rfl)
  rw [HW.out] at HC
  obtain ⟨aa, ca, rfl⟩ := ha.len
  obtain ⟨ab, cb, rfl⟩ := hb.len
  clear ha hb za zb
  go_enter Try.func31, Try.ntmps31
  go_wp2_with (go_at_call 50; refine HC.out.mono ?_; rintro e w2 ⟨v, rfl, hv, ho, K⟩)
  go_ret2
  exact ⟨v, rfl, hv, ho, K⟩
theorem op32_c {w : World} {va vb : Value} {a b : List Sp} (ha : Prs w va a) (hb : Prs w vb b) (za : Nz va) (zb : Nz vb) :
    Calls Try.prog 32 #[va, vb] w (ResPost wNot a b w) := by
  have HC := Lib.hid (two_c ha hb za zb 3 (by omega))
  have HW : Hid (wantK 3 = wNot) := Lib.hid (by funext x y; rfl)
  rw [HW.out] at HC
  obtain ⟨aa, ca, rfl⟩ := ha.len
  obtain ⟨ab, cb, rfl⟩ := hb.len
  clear ha hb za zb
  go_enter Try.func32, Try.ntmps32
  go_wp2_with (go_at_call 50; refine HC.out.mono ?_; rintro e w2 ⟨v, rfl, hv, ho, K⟩)
  go_ret2
  exact ⟨v, rfl, hv, ho, K⟩
theorem rnormal_c {w : World} {v : Value} {l : List Sp} (h : Prs w v l) (z : Nz v) : Calls Try.prog 24 #[v] w (ResPost wOr l [] w) := by
  have HA := Lib.hid (rcheck_c h)
  have HR := Lib.hid (fun W K h1 => rresult_c (w := W) (h.same K) (Prs.nil W none 0) z Nz.nil (chk_200 h1) (by simp) (Bk.chk_good.1 h1).2 Bk.Good.nil 1 (by omega))
  have HW : Hid (wantK 1 = wOr) := Lib.hid (by funext x y; rfl)
  have HE := Lib.hid (err2_nil l)
  obtain ⟨aa, ca, rfl⟩ := h.len
  clear h z
  by_cases h1 : chk l = 0
  · have H1 := Lib.hid h1
    rw [h1] at HA HE
    clear h1
    go_enter Try.func24, Try.ntmps24
    go_wp2_with (go_at_call 43; fail)
    refine HA.out.mono ?_
    rintro e w2 ⟨rfl, K⟩
    have HK := Lib.hid K
    clear K
    go_wp2_with (go_at_call 45; fail)
    refine (HR.out w2 HK.out H1.out).mono ?_
    rintro e w4 ⟨v, rfl, hv, ho, -, K4⟩
    have HF : Hid (Prs w4 v (if err2 l [] = 0 then Bk.rres wOr l [] else [])) := Lib.hid (by rw [if_pos HE.out, ← HW.out]; exact hv)
    have HO : Hid (∀ c, v.ownBlock = some c → w.heap.size ≤ c) := Lib.hid fun c hc => Nat.le_trans HK.out.size (ho c hc)
    have HK2 := Lib.hid (HK.out.trans K4 (fun _ _ h => h))
    clear hv ho K4
    go_wp2
    go_ret2
    exact ⟨v, by rw [HE.out]; rfl, HF.out, HO.out, HK2.out⟩
  · obtain ⟨r, hr⟩ : ∃ r, chk l = r := ⟨_, rfl⟩
    rw [hr] at HA HE h1
    have hz2 : (r != 0) = true := by simpa using h1
    clear h1 hr
    go_enter Try.func24, Try.ntmps24
    go_wp2_with (go_at_call 43; fail)
    refine HA.out.mono ?_
    rintro e w2 ⟨rfl, K⟩
    have HK := Lib.hid K
    clear K
    go_wp2
    go_ret2
    exact ⟨.slice none 0 0, by rw [HE.out]; rfl, by rw [HE.out, if_neg (by simpa using hz2)]; exact Prs.nil _ _ _, fun c hc => by simp [Value.ownBlock] at hc, HK.out⟩
theorem rin_c {w : World} {v : Value} {l : List Sp} (h : Prs w v l) (h63 : l.length ≤ 4611686018427387904) (t : Int) : Calls Try.prog 28 #[v, .int .i64 t] w (AskPost l t w) := by
  have HA := Lib.hid (rcheck_c h)
  have HH := Lib.hid (fun W K => rhas_c (w := W) (h.same K) h63 t)
  obtain ⟨aa, ca, rfl⟩ := h.len
  clear h h63
  by_cases h1 : chk l = 0
  · cases h2 : vld t with
    | true =>
      have HE : Hid (askE l t = 0) := Lib.hid (by unfold askE; rw [if_neg (by simp [h1]), if_pos h2])
      have HV := Lib.hid h2
      rw [h1] at HA
      clear h1 h2
      go_enter Try.func28, Try.ntmps28
      go_wp2_with (first | (go_at_call 43; refine HA.out.mono ?_; rintro e w2 ⟨rfl, K⟩) | (go_at_call 44; refine (rvalid_b true _ _ HV.out).mono ?_; rintro e w3 ⟨rfl, rfl⟩) | (go_at_call 49; refine (HH.out _ K).mono ?_; rintro e w4 ⟨rfl, K4⟩))
      go_ret2
      exact ⟨by rw [HE.out, if_pos rfl]; rfl, K.trans K4 (fun _ _ h => h)⟩
    | false =>
      have HE : Hid (askE l t = 14) := Lib.hid (by unfold askE; rw [if_neg (by simp [h1]), if_neg (by simp [h2])])
      have HV := Lib.hid h2
      rw [h1] at HA
      clear h1 h2
      go_enter Try.func28, Try.ntmps28
      go_wp2_with (first | (go_at_call 43; refine HA.out.mono ?_; rintro e w2 ⟨rfl, K⟩) | (go_at_call 44; refine (rvalid_b false _ _ HV.out).mono ?_; rintro e w3 ⟨rfl, rfl⟩))
      go_ret2
      exact ⟨by rw [HE.out]; rfl, K⟩
  · have HE : Hid (askE l t = chk l) := Lib.hid (by unfold askE; rw [if_pos h1])
    obtain ⟨r, hr⟩ : ∃ r, chk l = r := ⟨_, rfl⟩
    rw [hr] at HA HE h1
    have hz2 : (r != 0) = true := by simpa using h1
    have HZ := Lib.hid h1
    clear h1 hr
    go_enter Try.func28, Try.ntmps28
    go_wp2_with (first | (go_at_call 43; refine HA.out.mono ?_; rintro e w2 ⟨rfl, K⟩))
    go_ret2
    exact ⟨by rw [HE.out, if_neg HZ.out]; rfl, K⟩
end Go.Proofs.Ytaedijppbghnaaa

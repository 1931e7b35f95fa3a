/- The outright law of Free. -/
import Derived.Test.YtaedijppbghnaaaBkNorm
namespace Go.Proofs.Ytaedijppbghnaaa
open Go.RowKit
open Bk (Sp has chk vld)

theorem freeT_law {l : List Sp} (h : Bk.Norm l) (t : Int) : t ≤ freeT l t ∧ has l (freeT l t) = false ∧ (∀ x, t ≤ x → x < freeT l t → has l x = true) ∧ (freeT l t = t ∨ ∃ s ∈ l, freeT l t = s.2 + 1) := by
  induction l with
  | nil => exact ⟨Int.le_refl _, rfl, fun x h1 h2 => by simp only [freeT] at h2; omega, .inl rfl⟩
  | cons s r ih =>
    rw [freeT]
    by_cases hi : inS t s = true
    · rw [if_pos hi]
      have hi2 := hi
      simp only [inS, Bool.and_eq_true, decide_eq_true_eq] at hi2
      refine ⟨by omega, ?_, fun x h1 h2 => ?_, .inr ⟨s, .head _, rfl⟩⟩
      · rw [Bk.has_cons, h.off (Int.le_refl _)]
        simp
        intro _; omega
      · rw [Bk.has_cons]
        simp; left; omega
    · rw [if_neg hi]
      obtain ⟨h1, h2, h3, h4⟩ := ih h.tail
      have hi2 : ¬ (s.1 ≤ t ∧ t ≤ s.2) := by simpa [inS] using hi
      refine ⟨h1, ?_, fun x q1 q2 => ?_, ?_⟩
      · rw [Bk.has_cons, h2]
        simp only [Bool.or_false, Bool.and_eq_false_iff, decide_eq_false_iff_not]
        rcases h4 with h4 | ⟨y, hy, h4⟩
        · rw [h4]; omega
        · have := h.head.2 y hy
          have := h.tail.le y hy
          omega
      · rw [Bk.has_cons, h3 x q1 q2, Bool.or_true]
      · rcases h4 with h4 | ⟨y, hy, h4⟩
        · exact .inl h4
        · exact .inr ⟨y, .tail _ hy, h4⟩
/-- Spans of the outright laws. -/
structure Sp200 (a : List Sp) : Prop where
  bd : ∀ s ∈ a, (0 ≤ s.1 ∧ s.1 ≤ s.2) ∧ s.2 ≤ 199
  good : Bk.Good a
  len : a.length ≤ 20
  chk : chk a = 0
theorem spn_200 {l : List (Int × Int)} (h : ∀ x ∈ l, (0 ≤ x.1 ∧ x.1 ≤ 255) ∧ 0 ≤ x.2 ∧ x.2 ≤ 255) : Sp200 (spn l) := ⟨(spn_good h).1, (spn_good h).2.1, (spn_good h).2.2.1, (spn_good h).2.2.2⟩
theorem Sp200.has_bd {a : List Sp} (h : Sp200 a) {t : Int} (ht : has a t = true) : 0 ≤ t ∧ t ≤ 199 := by
  obtain ⟨s, hs, h1, h2⟩ := Bk.has_iff.1 ht
  have := h.bd s hs
  omega
theorem rres_bd {want : Bool → Bool → Bool} (hw : want false false = false) {a b : List Sp} (ha : Sp200 a) (hb : Sp200 b) : ∀ s ∈ Bk.rres want a b, (0 ≤ s.1 ∧ s.1 ≤ s.2) ∧ s.2 ≤ 199 := fun s hs => by
  obtain ⟨hn, hh⟩ := Bk.rres_law want hw a b
  have hle := hn.le s hs
  have key : ∀ t, has (Bk.rres want a b) t = true → 0 ≤ t ∧ t ≤ 199 := fun t ht => by
    rw [hh] at ht
    cases h1 : has a t with
    | true => exact ha.has_bd h1
    | false =>
      cases h2 : has b t with
      | true => exact hb.has_bd h2
      | false => rw [h1, h2, hw] at ht; cases ht
  have k1 := key s.1 (Bk.has_iff.2 ⟨s, hs, Int.le_refl _, hle⟩)
  have k2 := key s.2 (Bk.has_iff.2 ⟨s, hs, hle, Int.le_refl _⟩)
  omega
theorem sp200_nil : Sp200 [] := ⟨by simp, Bk.Good.nil, by simp, by decide⟩
theorem free_200 {a : List Sp} (h : Sp200 a) (t : Int) (h0 : 0 ≤ t) (h1 : t ≤ 255) : ∃ u, freeF a t = (u, true, 0) ∧ t ≤ u ∧ u ≤ 256 ∧ has a u = false ∧ ∀ x, t ≤ x → x < u → has a x = true := by
  obtain ⟨hn, hh⟩ := Bk.rres_law wOr rfl a []
  obtain ⟨k1, k2, k3, k4⟩ := freeT_law hn t
  have hh' : ∀ x, has (Bk.rres wOr a []) x = has a x := fun x => by rw [hh]; simp [wOr, Bk.has_nil]
  have hask : askE a t = 0 := by unfold askE; rw [if_neg (by simp [h.chk]), if_pos (by simp [vld]; omega)]
  have hu : freeT (Bk.rres wOr a []) t ≤ 256 := by
    rcases k4 with k4 | ⟨s, hs, k4⟩
    · omega
    · have := rres_bd (want := wOr) rfl h sp200_nil s hs; omega
  have hv : vld (freeT (Bk.rres wOr a []) t) = true := by simp [vld]; omega
  refine ⟨_, ?_, k1, hu, (hh' _).symm.trans k2, fun x q1 q2 => (hh' _).symm.trans (k3 x q1 q2)⟩
  unfold freeF
  rw [if_neg (by simp [hask]), if_pos hv]
set_option maxRecDepth 100000 in
set_option maxHeartbeats 2000000 in
theorem free_w {w : World} {v : Value} {l : List (Int × Int)} (h : PrsK .u8 w v l) (h63 : l.length ≤ maxLen) (hcap : ∀ a n c, v = .slice a n c → n ≤ c ∧ c ≤ maxLen) (hz : Nz v) (hbd : ∀ x ∈ l, (0 ≤ x.1 ∧ x.1 ≤ 255) ∧ 0 ≤ x.2 ∧ x.2 ≤ 255) (t : Int) (h0 : 0 ≤ t) (h1 : t ≤ 255) :
    Calls Try.prog 5 #[v, .int .u8 t] w fun e w' => e = .returned (.bool true) ∧ Kept (fun _ => False) w w' := by
  have HS := Lib.hid (spans_c h h63 hcap hz hbd)
  have H200 := Lib.hid (spn_200 hbd)
  obtain ⟨u, hf, hu1, hu2, hu3, hu4⟩ := free_200 H200.out t h0 h1
  have HF := Lib.hid hf
  have HU := Lib.hid hu4
  have HU3 := Lib.hid hu3
  have HL : Hid (((spn l).length : Int) ≤ 9223372036854775807) := Lib.hid (by have := H200.out.len; omega)
  obtain ⟨p, cap, rfl⟩ := h.len
  clear h h63 hcap hz hbd hf hu3 hu4
  go_enter Try.func5, Try.ntmps5
  go_wp2_with (go_at_call 12; fail)
  refine HS.out.mono ?_
  rintro e w1 ⟨va, rfl, hva, -, K1⟩
  have HV := Lib.hid hva
  have HK1 := Lib.hid K1
  clear hva K1
  go_wp2_with (go_at_call 20; fail)
  refine (free_c HV.out HL.out t).mono ?_
  rintro e w2 ⟨rfl, K2⟩
  rw [HF.out]
  have HK2 := Lib.hid (HK1.out.trans K2 (fun _ _ h => h))
  have HV2 := Lib.hid (HV.out.same K2)
  clear K2 HV
  go_wp2_with (go_at_call 21; fail)
  refine (has_c HV2.out HL.out u).mono ?_
  rintro e w3 ⟨rfl, K3⟩
  rw [HU3.out]
  have HK3 := Lib.hid (HK2.out.trans K3 (fun _ _ h => h))
  have HV3 := Lib.hid (HV2.out.same K3)
  clear K3 HV2
  go_wp2
  go_loopw [9] (fun i wr => ∃ x : Int, t ≤ x ∧ x ≤ u ∧ i = .int .i64 x ∧ Kept (fun _ => False) w3 wr) (fun i _ => match i with | .int _ x => (u - x).toNat | _ => 0)
  case atStart => exact ⟨t, Int.le_refl _, hu1, rfl, Kept.refl _ _⟩
  case round =>
    obtain ⟨x, hx1, hx2, rfl, K⟩ := hrel
    have HK := Lib.hid K
    clear K
    by_cases hlt : x < u
    · have HX := Lib.hid (HU.out x hx1 hlt)
      have HH := Lib.hid (has_c (HV3.out.same HK.out) HL.out x)
      rw [HX.out] at HH
      go_wp2_with (go_at_call 21; refine HH.out.mono ?_; rintro e w4 ⟨rfl, K4⟩)
      go_roundw
      case rel => exact ⟨x + 1, by omega, by omega, by go_num, HK.out.trans K4 (fun _ _ h => h)⟩
      case measure => simp; omega
    · go_wp2_with (go_at_call 17; refine (works_c _).mono ?_; rintro e w4 ⟨rfl, K4⟩)
      go_ret
      exact ⟨rfl, (HK3.out.trans HK.out (fun _ _ h => h)).trans K4 (fun _ _ h => h)⟩
end Go.Proofs.Ytaedijppbghnaaa

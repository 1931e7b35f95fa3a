/- The outright law of the results of two lists. -/
import Derived.Test.YtaedijppbghnaaaBkFreeLaw
namespace Go.Proofs.Ytaedijppbghnaaa
open Go.RowKit
open Bk (Sp has chk vld)

/-- A result is no longer than both lists. -/
theorem rfold_len2 (W : Int → Bool) : ∀ (l : List Int) (out : List Sp) (x : Int) (r : List Int) (k : Nat), l = x :: r → l.Pairwise (· < ·) → (∀ s ∈ out, s.2 < x) →
    2 * out.length ≤ k + (if (∃ s, out.getLast? = some s ∧ s.2 = x - 1) then 1 else 0) → 2 * (Bk.rfold W l out).length ≤ k + l.length
  | [x], out, _, _, k, _, _, _, h => by
    show 2 * out.length ≤ k + 1
    split at h <;> omega
  | x :: y :: r, out, x', r', k, e, hp, hx, h => by
    injection e with e1 e2
    subst e1 e2
    have hp' := List.pairwise_cons.1 hp
    have hxy : x < y := hp'.1 y (.head _)
    rw [Bk.rfold]
    have key : ∀ out' : List Sp, (∀ s ∈ out', s.2 < y) → 2 * out'.length ≤ (k + 1) + (if (∃ s, out'.getLast? = some s ∧ s.2 = y - 1) then 1 else 0) → 2 * (Bk.rfold W (y :: r) out').length ≤ k + (x :: y :: r).length := fun out' h1 h2 => by
      have := rfold_len2 W (y :: r) out' y r (k + 1) rfl hp'.2 h1 h2
      simp only [List.length_cons] at this ⊢
      omega
    by_cases hw : W x = true
    · rw [if_pos hw]
      rcases List.eq_nil_or_concat out with rfl | ⟨o, ⟨f, u⟩, rfl⟩
      · refine key _ (by simp [Bk.rext]; omega) ?_
        rw [if_pos ⟨(x, y - 1), by simp [Bk.rext], rfl⟩]
        simp [Bk.rext]
      · rw [List.concat_eq_append] at *
        have hu : u < x := hx (f, u) (by simp)
        rw [Bk.rext, List.getLast?_concat]
        simp only []
        by_cases he : u = x - 1
        · rw [if_pos he, List.dropLast_concat]
          refine key _ (fun s hs => ?_) ?_
          · rcases List.mem_append.1 hs with hs | hs
            · have := hx s (by simp [hs]); omega
            · simp at hs; subst hs; simp only; omega
          · rw [if_pos ⟨(f, y - 1), by simp, rfl⟩]
            simp only [List.length_append, List.length_singleton] at h ⊢
            split at h <;> omega
        · rw [if_neg he]
          refine key _ (fun s hs => ?_) ?_
          · rcases List.mem_append.1 hs with hs | hs
            · have := hx s hs; omega
            · simp at hs; subst hs; simp only; omega
          · rw [if_pos ⟨(x, y - 1), by simp, rfl⟩]
            rw [if_neg (by
              rintro ⟨s, h1, h2⟩
              rw [List.getLast?_concat] at h1
              injection h1 with h1
              subst h1
              exact he h2)] at h
            simp only [List.length_append, List.length_singleton] at h ⊢
            omega
    · rw [if_neg hw]
      refine key _ (fun s hs => by have := hx s hs; omega) ?_
      split at h <;> split <;> omega
theorem rres_len2 (want : Bool → Bool → Bool) (a b : List Sp) : (Bk.rres want a b).length ≤ a.length + b.length := by
  have h1 := bords_len (a ++ b)
  have h2 := (Bk.bords_law (a ++ b)).1
  unfold Bk.rres
  rcases hB : Bk.bords (a ++ b) with _ | ⟨x, r⟩
  · simp [Bk.rfold]
  · rw [hB] at h1 h2
    have := rfold_len2 (fun t => want (has a t) (has b t)) (x :: r) [] x r 0 rfl h2 (by simp) (by simp)
    rw [List.length_append] at h1
    omega
theorem rres_200 {want : Bool → Bool → Bool} (hw : want false false = false) {a b : List Sp} (ha : Sp200 a) (hb : Sp200 b) : Bk.Norm (Bk.rres want a b) ∧ Bk.Good (Bk.rres want a b) ∧ (Bk.rres want a b).length ≤ 40 ∧ chk (Bk.rres want a b) = 0 ∧ ∀ t, has (Bk.rres want a b) t = want (has a t) (has b t) := by
  obtain ⟨hn, hh⟩ := Bk.rres_law want hw a b
  have hb2 := rres_bd hw ha hb
  have hg : Bk.Good (Bk.rres want a b) := ⟨hn.le, fun s hs => (hb2 s hs).1.1, fun s hs => by have := (hb2 s hs).2; omega⟩
  have hl : (Bk.rres want a b).length ≤ 40 := by have := rres_len2 want a b; have := ha.len; have := hb.len; omega
  exact ⟨hn, hg, hl, Bk.chk_good.2 ⟨by omega, hg⟩, hh⟩
theorem err2_200 {a b : List Sp} (ha : Sp200 a) (hb : Sp200 b) : err2 a b = 0 := by
  unfold err2
  rw [if_neg (by simp [ha.chk])]
  exact hb.chk
set_option maxRecDepth 100000 in
set_option maxHeartbeats 4000000 in
theorem sets_w {w : World} {va vb : Value} {l m : List (Int × Int)} (h : PrsK .u8 w va l) (h63 : l.length ≤ maxLen) (hcap : ∀ a n c, va = .slice a n c → n ≤ c ∧ c ≤ maxLen) (hz : Nz va) (hbd : ∀ x ∈ l, (0 ≤ x.1 ∧ x.1 ≤ 255) ∧ 0 ≤ x.2 ∧ x.2 ≤ 255)
    (g : PrsK .u8 w vb m) (g63 : m.length ≤ maxLen) (gcap : ∀ a n c, vb = .slice a n c → n ≤ c ∧ c ≤ maxLen) (gz : Nz vb) (gbd : ∀ x ∈ m, (0 ≤ x.1 ∧ x.1 ≤ 255) ∧ 0 ≤ x.2 ∧ x.2 ≤ 255) :
    Calls Try.prog 9 #[va, vb] w (Tru w) := by
  have HS := Lib.hid (spans_c h h63 hcap hz hbd)
  have HS2 := Lib.hid (fun W K => spans_c (w := W) (g.same K) g63 gcap gz gbd)
  have ha := spn_200 hbd
  have hb := spn_200 gbd
  obtain ⟨p, cap, rfl⟩ := h.len
  obtain ⟨p2, cap2, rfl⟩ := g.len
  clear h h63 hcap hz hbd g g63 gcap gz gbd
  obtain ⟨a, hla⟩ : ∃ a, spn l = a := ⟨_, rfl⟩
  obtain ⟨b, hlb⟩ : ∃ b, spn m = b := ⟨_, rfl⟩
  rw [hla] at ha
  rw [hlb] at hb
  have HLA := Lib.hid hla
  have HLB := Lib.hid hlb
  clear hla hlb
  have HN := Lib.hid (rres_200 (want := wOr) rfl ha sp200_nil)
  have HU := Lib.hid (rres_200 (want := wOr) rfl ha hb)
  have HM := Lib.hid (rres_200 (want := wAnd) rfl ha hb)
  have HW := Lib.hid (rres_200 (want := wNot) rfl ha hb)
  have HE1 : Hid (err2 a [] = 0) := Lib.hid (err2_200 ha sp200_nil)
  have HE2 : Hid (err2 a b = 0) := Lib.hid (err2_200 ha hb)
  have HA := Lib.hid ha
  have HB := Lib.hid hb
  have HASK : Hid (∀ t : Int, 0 ≤ t → t ≤ 300 → askE a t = 0) := Lib.hid fun t h1 h2 => by unfold askE; rw [if_neg (by simp [HA.out.chk]), if_pos (by simp [vld]; omega)]
  clear ha hb
  have HLA64 : Hid ((a.length : Int) ≤ 9223372036854775807 ∧ (b.length : Int) ≤ 9223372036854775807) := Lib.hid (by have := HA.out.len; have := HB.out.len; omega)
  go_enter Try.func9, Try.ntmps9
  go_wp2_with (go_at_call 12; fail)
  refine HS.out.mono ?_
  rintro e w1 ⟨v1, rfl, hv1, -, K1⟩
  rw [HLA.out] at hv1
  have HVa1 := Lib.hid hv1
  have HK1 := Lib.hid K1
  clear hv1 K1
  go_wp2_with (go_at_call 12; fail)
  refine (HS2.out w1 HK1.out).mono ?_
  rintro e w2 ⟨v2, rfl, hv2, -, K2⟩
  rw [HLB.out] at hv2
  have HVa2 := Lib.hid (HVa1.out.same K2)
  have HVb2 := Lib.hid hv2
  have HK2 := Lib.hid (HK1.out.trans K2 (fun _ _ h => h))
  clear hv2 K2 HVa1
  go_wp2_with (go_at_call 23; fail)
  refine (normal_c HVa2.out HLA64.out.1).mono ?_
  rintro e w3 ⟨vPn, rfl, hv, -, K3⟩
  rw [HE1.out, if_pos rfl] at hv
  rw [HE1.out]
  have HPn3 := Lib.hid hv
  have HK3 := Lib.hid (HK2.out.trans K3 (fun _ _ h => h))
  have HVa3 := Lib.hid (HVa2.out.same K3)
  have HVb3 := Lib.hid (HVb2.out.same K3)
  clear hv K3 HVa2 HVb2
  go_wp2_with (go_at_call 13; fail)
  refine (op13_c HVa3.out HVb3.out HLA64.out.1 HLA64.out.2).mono ?_
  rintro e w4 ⟨vPu, rfl, hv, -, K4⟩
  rw [HE2.out, if_pos rfl] at hv
  rw [HE2.out]
  have HPu4 := Lib.hid hv
  have HK4 := Lib.hid (HK3.out.trans K4 (fun _ _ h => h))
  have HVa4 := Lib.hid (HVa3.out.same K4)
  have HVb4 := Lib.hid (HVb3.out.same K4)
  have HPn4 := Lib.hid (HPn3.out.same K4)
  clear hv K4 HVa3 HVb3 HPn3
  go_wp2_with (go_at_call 14; fail)
  refine (op14_c HVa4.out HVb4.out HLA64.out.1 HLA64.out.2).mono ?_
  rintro e w5 ⟨vPm, rfl, hv, -, K5⟩
  rw [HE2.out, if_pos rfl] at hv
  rw [HE2.out]
  have HPm5 := Lib.hid hv
  have HK5 := Lib.hid (HK4.out.trans K5 (fun _ _ h => h))
  have HVa5 := Lib.hid (HVa4.out.same K5)
  have HVb5 := Lib.hid (HVb4.out.same K5)
  have HPn5 := Lib.hid (HPn4.out.same K5)
  have HPu5 := Lib.hid (HPu4.out.same K5)
  clear hv K5 HVa4 HVb4 HPn4 HPu4
  go_wp2_with (go_at_call 15; fail)
  refine (op15_c HVa5.out HVb5.out HLA64.out.1 HLA64.out.2).mono ?_
  rintro e w6 ⟨vPw, rfl, hv, -, K6⟩
  rw [HE2.out, if_pos rfl] at hv
  rw [HE2.out]
  have HPw6 := Lib.hid hv
  have HK6 := Lib.hid (HK5.out.trans K6 (fun _ _ h => h))
  have HVa6 := Lib.hid (HVa5.out.same K6)
  have HVb6 := Lib.hid (HVb5.out.same K6)
  have HPn6 := Lib.hid (HPn5.out.same K6)
  have HPu6 := Lib.hid (HPu5.out.same K6)
  have HPm6 := Lib.hid (HPm5.out.same K6)
  clear hv K6 HVa5 HVb5 HPn5 HPu5 HPm5
  go_wp2_with (go_at_call 33; fail)
  refine (normal33_c HPn6.out (by have := HN.out.2.2.1; omega) HN.out.1 HN.out.2.1).mono ?_
  rintro e w7 ⟨rfl, K7⟩
  have HK7 := Lib.hid (HK6.out.trans K7 (fun _ _ h => h))
  have HVa7 := Lib.hid (HVa6.out.same K7)
  have HVb7 := Lib.hid (HVb6.out.same K7)
  have HPn7 := Lib.hid (HPn6.out.same K7)
  have HPu7 := Lib.hid (HPu6.out.same K7)
  have HPm7 := Lib.hid (HPm6.out.same K7)
  have HPw7 := Lib.hid (HPw6.out.same K7)
  clear K7 HVa6 HVb6 HPn6 HPu6 HPm6 HPw6
  go_wp2_with (go_at_call 33; fail)
  refine (normal33_c HPu7.out (by have := HU.out.2.2.1; omega) HU.out.1 HU.out.2.1).mono ?_
  rintro e w8 ⟨rfl, K8⟩
  have HK8 := Lib.hid (HK7.out.trans K8 (fun _ _ h => h))
  have HVa8 := Lib.hid (HVa7.out.same K8)
  have HVb8 := Lib.hid (HVb7.out.same K8)
  have HPn8 := Lib.hid (HPn7.out.same K8)
  have HPu8 := Lib.hid (HPu7.out.same K8)
  have HPm8 := Lib.hid (HPm7.out.same K8)
  have HPw8 := Lib.hid (HPw7.out.same K8)
  clear K8 HVa7 HVb7 HPn7 HPu7 HPm7 HPw7
  go_wp2_with (go_at_call 33; fail)
  refine (normal33_c HPm8.out (by have := HM.out.2.2.1; omega) HM.out.1 HM.out.2.1).mono ?_
  rintro e w9 ⟨rfl, K9⟩
  have HK9 := Lib.hid (HK8.out.trans K9 (fun _ _ h => h))
  have HVa9 := Lib.hid (HVa8.out.same K9)
  have HVb9 := Lib.hid (HVb8.out.same K9)
  have HPn9 := Lib.hid (HPn8.out.same K9)
  have HPu9 := Lib.hid (HPu8.out.same K9)
  have HPm9 := Lib.hid (HPm8.out.same K9)
  have HPw9 := Lib.hid (HPw8.out.same K9)
  clear K9 HVa8 HVb8 HPn8 HPu8 HPm8 HPw8
  go_wp2_with (go_at_call 33; fail)
  refine (normal33_c HPw9.out (by have := HW.out.2.2.1; omega) HW.out.1 HW.out.2.1).mono ?_
  rintro e w10 ⟨rfl, K10⟩
  have HK10 := Lib.hid (HK9.out.trans K10 (fun _ _ h => h))
  have HVa10 := Lib.hid (HVa9.out.same K10)
  have HVb10 := Lib.hid (HVb9.out.same K10)
  have HPn10 := Lib.hid (HPn9.out.same K10)
  have HPu10 := Lib.hid (HPu9.out.same K10)
  have HPm10 := Lib.hid (HPm9.out.same K10)
  have HPw10 := Lib.hid (HPw9.out.same K10)
  clear K10 HVa9 HVb9 HPn9 HPu9 HPm9 HPw9
  go_wp2
  go_loopw [81] (fun i wr => ∃ j : Nat, j ≤ 202 ∧ i = .int .i64 j ∧ Kept (fun _ => False) w10 wr) (fun i _ => match i with | .int _ x => (202 - x).toNat | _ => 0)
  case atStart => exact ⟨0, by omega, rfl, Kept.refl _ _⟩
  case round =>
    obtain ⟨j, hj, rfl, K⟩ := hrel
    have HK := Lib.hid K
    clear K
    by_cases hlt : j < 202
    · obtain ⟨x, hx⟩ : ∃ x, has a (j : Int) = x := ⟨_, rfl⟩
      obtain ⟨y, hy⟩ : ∃ y, has b (j : Int) = y := ⟨_, rfl⟩
      have F1 : Hid (has (Bk.rres wOr a []) (j : Int) = x) := Lib.hid (by rw [HN.out.2.2.2.2, hx, Bk.has_nil]; cases x <;> rfl)
      have F2 : Hid (has (Bk.rres wOr a b) (j : Int) = (x || y)) := Lib.hid (by rw [HU.out.2.2.2.2, hx, hy]; rfl)
      have F3 : Hid (has (Bk.rres wAnd a b) (j : Int) = (x && y)) := Lib.hid (by rw [HM.out.2.2.2.2, hx, hy]; rfl)
      have F4 : Hid (has (Bk.rres wNot a b) (j : Int) = (x && !y)) := Lib.hid (by rw [HW.out.2.2.2.2, hx, hy]; rfl)
      have HX := Lib.hid hx
      have HY := Lib.hid hy
      have HAJ := Lib.hid (HASK.out (j : Int) (by omega) (by omega))
      have HL3 : Hid (((Bk.rres wOr a []).length : Int) ≤ 9223372036854775807 ∧ ((Bk.rres wOr a b).length : Int) ≤ 9223372036854775807 ∧ ((Bk.rres wAnd a b).length : Int) ≤ 9223372036854775807 ∧ ((Bk.rres wNot a b).length : Int) ≤ 9223372036854775807) := Lib.hid (by have := HN.out.2.2.1; have := HU.out.2.2.1; have := HM.out.2.2.1; have := HW.out.2.2.1; omega)
      clear hx hy
      cases x <;> cases y <;>
      · go_wp2_with (go_at_call 21; fail)
        refine (has_c (HVa10.out.same HK.out) HLA64.out.1 (j : Int)).mono ?_
        rintro e y1 ⟨rfl, Q1⟩
        rw [HX.out]
        have HQ1 := Lib.hid (HK.out.trans Q1 (fun _ _ h => h))
        clear Q1
        go_wp2_with (go_at_call 21; fail)
        refine (has_c (HVb10.out.same HQ1.out) HLA64.out.2 (j : Int)).mono ?_
        rintro e y2 ⟨rfl, Q2⟩
        rw [HY.out]
        have HQ2 := Lib.hid (HQ1.out.trans Q2 (fun _ _ h => h))
        clear Q2
        go_wp2_with (go_at_call 27; fail)
        refine (in_c (HVa10.out.same HQ2.out) HLA64.out.1 (j : Int)).mono ?_
        rintro e y3 ⟨rfl, Q3⟩
        rw [HAJ.out, if_pos rfl, HX.out]
        have HQ3 := Lib.hid (HQ2.out.trans Q3 (fun _ _ h => h))
        clear Q3
        go_wp2_with (go_at_call 21; fail)
        refine (has_c (HPn10.out.same HQ3.out) HL3.out.1 (j : Int)).mono ?_
        rintro e y4 ⟨rfl, Q4⟩
        rw [F1.out]
        have HQ4 := Lib.hid (HQ3.out.trans Q4 (fun _ _ h => h))
        clear Q4
        go_wp2_with (go_at_call 21; fail)
        refine (has_c (HPu10.out.same HQ4.out) HL3.out.2.1 (j : Int)).mono ?_
        rintro e y5 ⟨rfl, Q5⟩
        rw [F2.out]
        have HQ5 := Lib.hid (HQ4.out.trans Q5 (fun _ _ h => h))
        clear Q5
        go_wp2_with (go_at_call 21; fail)
        refine (has_c (HPm10.out.same HQ5.out) HL3.out.2.2.1 (j : Int)).mono ?_
        rintro e y6 ⟨rfl, Q6⟩
        rw [F3.out]
        have HQ6 := Lib.hid (HQ5.out.trans Q6 (fun _ _ h => h))
        clear Q6
        go_wp2_with (go_at_call 21; fail)
        refine (has_c (HPw10.out.same HQ6.out) HL3.out.2.2.2 (j : Int)).mono ?_
        rintro e y7 ⟨rfl, Q7⟩
        rw [F4.out]
        have HQ7 := Lib.hid (HQ6.out.trans Q7 (fun _ _ h => h))
        clear Q7
        go_wp2
        go_roundw
        case rel => exact ⟨j + 1, by omega, by go_num, HQ7.out⟩
        case measure => simp; omega
    · obtain rfl : j = 202 := by omega
      go_wp2_with (go_at_call 17; refine (works_c _).mono ?_; rintro e w4 ⟨rfl, K4⟩)
      go_ret
      exact ⟨rfl, (HK10.out.trans HK.out (fun _ _ h => h)).trans K4 (fun _ _ h => h)⟩
end Go.Proofs.Ytaedijppbghnaaa

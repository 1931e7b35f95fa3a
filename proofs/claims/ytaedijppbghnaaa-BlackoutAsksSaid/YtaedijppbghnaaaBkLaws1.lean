/- The four laws that compare with the reference. -/
import Derived.Test.YtaedijppbghnaaaBkWorks
namespace Go.Proofs.Ytaedijppbghnaaa
open Go.RowKit
open Bk (Sp has chk vld)

theorem SLs.one {w : World} {a : Option Addr} {n c : Nat} {t : Nat} (h : n ≤ 9223372036854775807) : SLs (w.alloc (.cells #[.slice a n c] t)) (.slice (some ⟨w.heap.size, 0, none⟩) 1 1) [n] := by
  refine ⟨_, 0, 1, rfl, fun i m hi => ?_⟩
  cases i with
  | zero => simp at hi; subst hi; exact ⟨h, a, c, by rw [Nat.zero_add, World.cell?_alloc_at _ _ _ _ rfl]; rfl⟩
  | succ i => simp at hi
theorem SLs.two {w : World} {a b : Option Addr} {n c m d : Nat} {t : Nat} (h : n ≤ 9223372036854775807) (h2 : m ≤ 9223372036854775807) : SLs (w.alloc (.cells #[.slice a n c, .slice b m d] t)) (.slice (some ⟨w.heap.size, 0, none⟩) 2 2) [n, m] := by
  refine ⟨_, 0, 2, rfl, fun i k hi => ?_⟩
  match i with
  | 0 => simp at hi; subst hi; exact ⟨h, a, c, by rw [Nat.zero_add, World.cell?_alloc_at _ _ _ _ rfl]; rfl⟩
  | 1 => simp at hi; subst hi; exact ⟨h2, b, d, by rw [Nat.zero_add, World.cell?_alloc_at _ _ _ _ rfl]; rfl⟩
  | i + 2 => simp at hi
abbrev Tru (w : World) (e : Ending) (w' : World) : Prop := e = .returned (.bool true) ∧ Kept (fun _ => False) w w'
set_option maxRecDepth 100000 in
set_option maxHeartbeats 1000000 in
theorem lengths_w {w : World} {v : Value} {l : List Sp} (h : Prs w v l) (z : Nz v) (h63 : l.length ≤ maxLen) (a b : Int) : Calls Try.prog 4 #[v, .int .i64 a, .int .i64 b] w (Tru w) := by
  have hl : l.length ≤ 9223372036854775807 := h63
  have HQ := Lib.hid h
  have HL := Lib.hid hl
  obtain ⟨p, cap, rfl⟩ := h.len
  have HF : Hid (∀ t, Calls Try.prog 18 #[.slice (some ⟨w.heap.size, 0, none⟩) 1 1] (w.alloc (.cells #[.slice p l.length cap] t)) fun e w' => e = .returned (.bool (!big [l.length])) ∧ w.alloc (.cells #[.slice p l.length cap] t) = w') := Lib.hid fun t => few_c (SLs.one hl) (by simp)
  have HK0 : Hid (∀ t, Kept (fun _ => False) w (w.alloc (.cells #[.slice p l.length cap] t))) := Lib.hid fun t => (Kept.refl _ _).alloc _
  clear h h63 hl
  cases hb : big [l.length] with
  | true =>
    rw [hb] at HF
    clear hb
    go_enter Try.func4, Try.ntmps4
    go_wp2_with (first | (go_at_call 18; refine (HF.out _).mono ?_; rintro e w1 ⟨rfl, rfl⟩) | (go_at_call 17; refine (works_c _).mono ?_; rintro e w2 ⟨rfl, K2⟩))
    go_ret
    exact ⟨rfl, (HK0.out _).trans K2 (fun _ _ h => h)⟩
  | false =>
    rw [hb] at HF
    clear hb
    go_enter Try.func4, Try.ntmps4
    go_wp2_with (first | (go_at_call 18; refine (HF.out _).mono ?_; rintro e w1 ⟨rfl, rfl⟩) | (go_at_call 16; fail))
    refine (length_c (HQ.out.same (HK0.out _)) (by have := HL.out; omega) a b).mono ?_
    rintro e w2 ⟨rfl, K2⟩
    have HK2 := Lib.hid ((HK0.out _).trans K2 (fun _ _ h => h))
    clear K2
    go_wp2_with (go_at_call 19; fail)
    refine (rlength_c (HQ.out.same HK2.out) z a b).mono ?_
    rintro e w3 ⟨rfl, K3⟩
    have HK3 := Lib.hid (HK2.out.trans K3 (fun _ _ h => h))
    clear K3
    go_wp2_with (go_at_call 17; refine (works_c _).mono ?_; rintro e w4 ⟨rfl, K4⟩)
    go_ret
    exact ⟨rfl, HK3.out.trans K4 (fun _ _ h => h)⟩
set_option maxRecDepth 100000 in
set_option maxHeartbeats 1000000 in
theorem normals_w {w : World} {v : Value} {l : List Sp} (h : Prs w v l) (z : Nz v) (h63 : l.length ≤ maxLen) : Calls Try.prog 6 #[v] w (Tru w) := by
  have hl : l.length ≤ 9223372036854775807 := h63
  have HQ := Lib.hid h
  have HL := Lib.hid hl
  obtain ⟨p, cap, rfl⟩ := h.len
  have HF : Hid (∀ t, Calls Try.prog 18 #[.slice (some ⟨w.heap.size, 0, none⟩) 1 1] (w.alloc (.cells #[.slice p l.length cap] t)) fun e w' => e = .returned (.bool (!big [l.length])) ∧ w.alloc (.cells #[.slice p l.length cap] t) = w') := Lib.hid fun t => few_c (SLs.one hl) (by simp)
  have HK0 : Hid (∀ t, Kept (fun _ => False) w (w.alloc (.cells #[.slice p l.length cap] t))) := Lib.hid fun t => (Kept.refl _ _).alloc _
  have HZ := Lib.hid z
  clear h h63 hl z
  cases hb : big [l.length] with
  | true =>
    rw [hb] at HF
    clear hb
    go_enter Try.func6, Try.ntmps6
    go_wp2_with (first | (go_at_call 18; refine (HF.out _).mono ?_; rintro e w1 ⟨rfl, rfl⟩) | (go_at_call 17; refine (works_c _).mono ?_; rintro e w2 ⟨rfl, K2⟩))
    go_ret
    exact ⟨rfl, (HK0.out _).trans K2 (fun _ _ h => h)⟩
  | false =>
    have H100 : Hid (l.length ≤ 100) := Lib.hid (by simp [big] at hb; omega)
    rw [hb] at HF
    clear hb
    have HRL : Hid ((if err2 l [] = 0 then Bk.rres wOr l [] else []).length ≤ 4611686018427387904) := Lib.hid (by
      split
      · have := rres_len wOr l []; have := H100.out; simp at *; omega
      · simp)
    have HEE : Hid (err2 l [] = chk l) := Lib.hid (err2_nil l)
    go_enter Try.func6, Try.ntmps6
    go_wp2_with (first | (go_at_call 18; refine (HF.out _).mono ?_; rintro e w1 ⟨rfl, rfl⟩) | (go_at_call 22; fail))
    refine (clone_c (HQ.out.same (HK0.out _)) HZ.out (by have := H100.out; omega)).mono ?_
    rintro e w2 ⟨v2, rfl, hv2, z2, K2⟩
    have HK2 := Lib.hid ((HK0.out _).trans K2 (fun _ _ h => h))
    have HV2 := Lib.hid hv2
    have HZ2 := Lib.hid z2
    clear hv2 z2 K2
    go_wp2_with (go_at_call 23; fail)
    refine (normal_c (HQ.out.same HK2.out) (by have := HL.out; omega)).mono ?_
    rintro e w3 ⟨v3, rfl, hv3, -, K3⟩
    have HK3 := Lib.hid (HK2.out.trans K3 (fun _ _ h => h))
    have HV3 := Lib.hid hv3
    have HV2' := Lib.hid (HV2.out.same K3)
    clear hv3 K3 HV2
    go_wp2_with (go_at_call 24; fail)
    refine (rnormal_c HV2'.out HZ2.out).mono ?_
    rintro e w4 ⟨v4, rfl, hv4, -, K4⟩
    have HK4 := Lib.hid (HK3.out.trans K4 (fun _ _ h => h))
    have HV4 := Lib.hid hv4
    have HV2b := Lib.hid (HV2'.out.same K4)
    have HV3b := Lib.hid (HV3.out.same K4)
    clear hv4 K4 HV2' HV3
    go_wp2_with (go_at_call 25; fail)
    refine (equal_c HV3b.out HV4.out HRL.out HRL.out).mono ?_
    rintro e w5 ⟨rfl, K5⟩
    rw [decide_eq_true rfl]
    have HK5 := Lib.hid (HK4.out.trans K5 (fun _ _ h => h))
    have HV2c := Lib.hid (HV2b.out.same K5)
    clear K5 HV2b HV3b HV4
    rw [HEE.out]
    go_wp2_with (go_at_call 26; fail)
    refine (check_c (HQ.out.same HK5.out) (by have := HL.out; omega)).mono ?_
    rintro e w6 ⟨rfl, K6⟩
    have HK6 := Lib.hid (HK5.out.trans K6 (fun _ _ h => h))
    have HV2d := Lib.hid (HV2c.out.same K6)
    clear K6 HV2c
    go_wp2_with (go_at_call 25; fail)
    refine (equal_c (HQ.out.same HK6.out) HV2d.out (by have := H100.out; omega) (by have := H100.out; omega)).mono ?_
    rintro e w7 ⟨rfl, K7⟩
    rw [decide_eq_true rfl]
    have HK7 := Lib.hid (HK6.out.trans K7 (fun _ _ h => h))
    clear K7
    go_wp2_with (go_at_call 17; refine (works_c _).mono ?_; rintro e w8 ⟨rfl, K8⟩)
    go_ret
    exact ⟨rfl, HK7.out.trans K8 (fun _ _ h => h)⟩
set_option maxRecDepth 100000 in
set_option maxHeartbeats 1000000 in
theorem asks_w {w : World} {v : Value} {l : List Sp} (h : Prs w v l) (z : Nz v) (h63 : l.length ≤ maxLen) (t : Int) : Calls Try.prog 7 #[v, .int .i64 t] w (Tru w) := by
  have hl : l.length ≤ 9223372036854775807 := h63
  have HQ := Lib.hid h
  have HL := Lib.hid hl
  obtain ⟨p, cap, rfl⟩ := h.len
  have HF : Hid (∀ t, Calls Try.prog 18 #[.slice (some ⟨w.heap.size, 0, none⟩) 1 1] (w.alloc (.cells #[.slice p l.length cap] t)) fun e w' => e = .returned (.bool (!big [l.length])) ∧ w.alloc (.cells #[.slice p l.length cap] t) = w') := Lib.hid fun t => few_c (SLs.one hl) (by simp)
  have HK0 : Hid (∀ t, Kept (fun _ => False) w (w.alloc (.cells #[.slice p l.length cap] t))) := Lib.hid fun t => (Kept.refl _ _).alloc _
  have HZ := Lib.hid z
  clear h h63 hl z
  cases hb : big [l.length] with
  | true =>
    rw [hb] at HF
    clear hb
    go_enter Try.func7, Try.ntmps7
    go_wp2_with (first | (go_at_call 18; refine (HF.out _).mono ?_; rintro e w1 ⟨rfl, rfl⟩) | (go_at_call 17; refine (works_c _).mono ?_; rintro e w2 ⟨rfl, K2⟩))
    go_ret
    exact ⟨rfl, (HK0.out _).trans K2 (fun _ _ h => h)⟩
  | false =>
    have H100 : Hid (l.length ≤ 100) := Lib.hid (by simp [big] at hb; omega)
    rw [hb] at HF
    clear hb
    go_enter Try.func7, Try.ntmps7
    go_wp2_with (first | (go_at_call 18; refine (HF.out _).mono ?_; rintro e w1 ⟨rfl, rfl⟩) | (go_at_call 27; fail))
    refine (in_c (HQ.out.same (HK0.out _)) (by have := HL.out; omega) t).mono ?_
    rintro e w2 ⟨rfl, K2⟩
    have HK2 := Lib.hid ((HK0.out _).trans K2 (fun _ _ h => h))
    clear K2
    obtain ⟨bb, hbb⟩ : ∃ bb, (if askE l t = 0 then has l t else false) = bb := ⟨_, rfl⟩
    obtain ⟨ea, hea⟩ : ∃ ea, askE l t = ea := ⟨_, rfl⟩
    rw [hbb, hea]
    have HBB := Lib.hid hbb
    have HEA := Lib.hid hea
    clear hbb hea
    go_wp2_with (go_at_call 28; fail)
    refine (rin_c (HQ.out.same HK2.out) (by have := H100.out; omega) t).mono ?_
    rintro e w3 ⟨rfl, K3⟩
    have HK3 := Lib.hid (HK2.out.trans K3 (fun _ _ h => h))
    clear K3
    rw [HBB.out, HEA.out]
    go_wp2_with (go_at_call 20; fail)
    refine (free_c (HQ.out.same HK3.out) (by have := HL.out; omega) t).mono ?_
    rintro e w4 ⟨rfl, K4⟩
    have HK4 := Lib.hid (HK3.out.trans K4 (fun _ _ h => h))
    clear K4
    go_wp2_with (go_at_call 29; fail)
    refine (rfree_c (HQ.out.same HK4.out) HZ.out t).mono ?_
    rintro e w5 ⟨rfl, K5⟩
    have HK5 := Lib.hid (HK4.out.trans K5 (fun _ _ h => h))
    clear K5
    generalize freeF l t = f
    obtain ⟨f1, f2, f3⟩ := f
    cases f2 <;> cases bb <;>
    · go_wp2_with (go_at_call 17; refine (works_c _).mono ?_; rintro e w8 ⟨rfl, K8⟩)
      go_ret
      exact ⟨rfl, HK5.out.trans K8 (fun _ _ h => h)⟩
set_option maxRecDepth 100000 in
set_option maxHeartbeats 2000000 in
theorem two_w {w : World} {va vb : Value} {a b : List Sp} (ha : Prs w va a) (hb : Prs w vb b) (za : Nz va) (zb : Nz vb) (h63 : a.length ≤ maxLen) (g63 : b.length ≤ maxLen) : Calls Try.prog 8 #[va, vb] w (Tru w) := by
  have hl : a.length ≤ 9223372036854775807 := h63
  have hl2 : b.length ≤ 9223372036854775807 := g63
  have HA := Lib.hid ha
  have HB := Lib.hid hb
  have HL := Lib.hid hl
  have HL2 := Lib.hid hl2
  obtain ⟨p, cap, rfl⟩ := ha.len
  obtain ⟨p2, cap2, rfl⟩ := hb.len
  have HF : Hid (∀ t, Calls Try.prog 18 #[.slice (some ⟨w.heap.size, 0, none⟩) 2 2] (w.alloc (.cells #[.slice p a.length cap, .slice p2 b.length cap2] t)) fun e w' => e = .returned (.bool (!big [a.length, b.length])) ∧ w.alloc (.cells #[.slice p a.length cap, .slice p2 b.length cap2] t) = w') := Lib.hid fun t => few_c (SLs.two hl hl2) (by simp)
  have HK0 : Hid (∀ t, Kept (fun _ => False) w (w.alloc (.cells #[.slice p a.length cap, .slice p2 b.length cap2] t))) := Lib.hid fun t => (Kept.refl _ _).alloc _
  have HZA := Lib.hid za
  have HZB := Lib.hid zb
  clear ha hb h63 g63 hl hl2 za zb
  cases hb : big [a.length, b.length] with
  | true =>
    rw [hb] at HF
    clear hb
    go_enter Try.func8, Try.ntmps8
    go_wp2_with (first | (go_at_call 18; refine (HF.out _).mono ?_; rintro e w1 ⟨rfl, rfl⟩) | (go_at_call 17; refine (works_c _).mono ?_; rintro e w2 ⟨rfl, K2⟩))
    go_ret
    exact ⟨rfl, (HK0.out _).trans K2 (fun _ _ h => h)⟩
  | false =>
    have H100 : Hid (a.length ≤ 100 ∧ b.length ≤ 100) := Lib.hid (by simp [big] at hb; omega)
    rw [hb] at HF
    clear hb
    have HR : Hid (∀ want, (if err2 a b = 0 then Bk.rres want a b else []).length ≤ 4611686018427387904) := Lib.hid (by
      intro want
      split
      · have := rres_len want a b; have := H100.out; simp at *; omega
      · simp)
    go_enter Try.func8, Try.ntmps8
    go_wp2_with (first | (go_at_call 18; refine (HF.out _).mono ?_; rintro e w1 ⟨rfl, rfl⟩) | (go_at_call 22; fail))
    refine (clone_c (HA.out.same (HK0.out _)) HZA.out (by have := H100.out; omega)).mono ?_
    rintro e w2 ⟨c, rfl, hc, zc, K2⟩
    have HK2 := Lib.hid ((HK0.out _).trans K2 (fun _ _ h => h))
    have HC2 := Lib.hid hc
    have HZC := Lib.hid zc
    clear hc zc K2
    go_wp2_with (go_at_call 22; fail)
    refine (clone_c (HB.out.same HK2.out) HZB.out (by have := H100.out; omega)).mono ?_
    rintro e w3 ⟨d, rfl, hd, zd, K3⟩
    have HK3 := Lib.hid (HK2.out.trans K3 (fun _ _ h => h))
    have HC3 := Lib.hid (HC2.out.same K3)
    have HD3 := Lib.hid hd
    have HZD := Lib.hid zd
    clear hd zd K3 HC2
    go_wp2_with (go_at_call 13; fail)
    refine (op13_c (HA.out.same HK3.out) (HB.out.same HK3.out) (by have := HL.out; omega) (by have := HL2.out; omega)).mono ?_
    rintro e w4 ⟨u, rfl, hu, -, K4⟩
    have HK4 := Lib.hid (HK3.out.trans K4 (fun _ _ h => h))
    have Hu4 := Lib.hid hu
    have HC4 := Lib.hid (HC3.out.same K4)
    have HD4 := Lib.hid (HD3.out.same K4)
    clear hu K4 HC3 HD3
    go_wp2_with (go_at_call 30; fail)
    refine (op30_c HC4.out HD4.out HZC.out HZD.out).mono ?_
    rintro e w5 ⟨v, rfl, hv, -, K5⟩
    have HK5 := Lib.hid (HK4.out.trans K5 (fun _ _ h => h))
    have Hv5 := Lib.hid hv
    have HC5 := Lib.hid (HC4.out.same K5)
    have HD5 := Lib.hid (HD4.out.same K5)
    have Hu5 := Lib.hid (Hu4.out.same K5)
    clear hv K5 HC4 HD4 Hu4
    go_wp2_with (go_at_call 14; fail)
    refine (op14_c (HA.out.same HK5.out) (HB.out.same HK5.out) (by have := HL.out; omega) (by have := HL2.out; omega)).mono ?_
    rintro e w6 ⟨m, rfl, hm, -, K6⟩
    have HK6 := Lib.hid (HK5.out.trans K6 (fun _ _ h => h))
    have Hm6 := Lib.hid hm
    have HC6 := Lib.hid (HC5.out.same K6)
    have HD6 := Lib.hid (HD5.out.same K6)
    have Hu6 := Lib.hid (Hu5.out.same K6)
    have Hv6 := Lib.hid (Hv5.out.same K6)
    clear hm K6 HC5 HD5 Hu5 Hv5
    go_wp2_with (go_at_call 31; fail)
    refine (op31_c HC6.out HD6.out HZC.out HZD.out).mono ?_
    rintro e w7 ⟨k, rfl, hk, -, K7⟩
    have HK7 := Lib.hid (HK6.out.trans K7 (fun _ _ h => h))
    have Hk7 := Lib.hid hk
    have HC7 := Lib.hid (HC6.out.same K7)
    have HD7 := Lib.hid (HD6.out.same K7)
    have Hu7 := Lib.hid (Hu6.out.same K7)
    have Hv7 := Lib.hid (Hv6.out.same K7)
    have Hm7 := Lib.hid (Hm6.out.same K7)
    clear hk K7 HC6 HD6 Hu6 Hv6 Hm6
    go_wp2_with (go_at_call 15; fail)
    refine (op15_c (HA.out.same HK7.out) (HB.out.same HK7.out) (by have := HL.out; omega) (by have := HL2.out; omega)).mono ?_
    rintro e w8 ⟨x, rfl, hx, -, K8⟩
    have HK8 := Lib.hid (HK7.out.trans K8 (fun _ _ h => h))
    have Hx8 := Lib.hid hx
    have HC8 := Lib.hid (HC7.out.same K8)
    have HD8 := Lib.hid (HD7.out.same K8)
    have Hu8 := Lib.hid (Hu7.out.same K8)
    have Hv8 := Lib.hid (Hv7.out.same K8)
    have Hm8 := Lib.hid (Hm7.out.same K8)
    have Hk8 := Lib.hid (Hk7.out.same K8)
    clear hx K8 HC7 HD7 Hu7 Hv7 Hm7 Hk7
    go_wp2_with (go_at_call 32; fail)
    refine (op32_c HC8.out HD8.out HZC.out HZD.out).mono ?_
    rintro e w9 ⟨y, rfl, hy, -, K9⟩
    have HK9 := Lib.hid (HK8.out.trans K9 (fun _ _ h => h))
    have Hy9 := Lib.hid hy
    have HC9 := Lib.hid (HC8.out.same K9)
    have HD9 := Lib.hid (HD8.out.same K9)
    have Hu9 := Lib.hid (Hu8.out.same K9)
    have Hv9 := Lib.hid (Hv8.out.same K9)
    have Hm9 := Lib.hid (Hm8.out.same K9)
    have Hk9 := Lib.hid (Hk8.out.same K9)
    have Hx9 := Lib.hid (Hx8.out.same K9)
    clear hy K9 HC8 HD8 Hu8 Hv8 Hm8 Hk8 Hx8
    go_wp2_with (go_at_call 25; fail)
    refine (equal_c Hu9.out Hv9.out (HR.out _) (HR.out _)).mono ?_
    rintro e w10 ⟨rfl, K10⟩
    rw [decide_eq_true rfl]
    have HK10 := Lib.hid (HK9.out.trans K10 (fun _ _ h => h))
    have HC10 := Lib.hid (HC9.out.same K10)
    have HD10 := Lib.hid (HD9.out.same K10)
    have Hm10 := Lib.hid (Hm9.out.same K10)
    have Hk10 := Lib.hid (Hk9.out.same K10)
    have Hx10 := Lib.hid (Hx9.out.same K10)
    have Hy10 := Lib.hid (Hy9.out.same K10)
    clear K10 HC9 HD9 Hm9 Hk9 Hx9 Hy9
    go_wp2_with (go_at_call 25; fail)
    refine (equal_c Hm10.out Hk10.out (HR.out _) (HR.out _)).mono ?_
    rintro e w11 ⟨rfl, K11⟩
    rw [decide_eq_true rfl]
    have HK11 := Lib.hid (HK10.out.trans K11 (fun _ _ h => h))
    have HC11 := Lib.hid (HC10.out.same K11)
    have HD11 := Lib.hid (HD10.out.same K11)
    have Hx11 := Lib.hid (Hx10.out.same K11)
    have Hy11 := Lib.hid (Hy10.out.same K11)
    clear K11 HC10 HD10 Hx10 Hy10
    go_wp2_with (go_at_call 25; fail)
    refine (equal_c Hx11.out Hy11.out (HR.out _) (HR.out _)).mono ?_
    rintro e w12 ⟨rfl, K12⟩
    rw [decide_eq_true rfl]
    have HK12 := Lib.hid (HK11.out.trans K12 (fun _ _ h => h))
    have HC12 := Lib.hid (HC11.out.same K12)
    have HD12 := Lib.hid (HD11.out.same K12)
    clear K12 HC11 HD11
    go_wp2_with (go_at_call 25; fail)
    refine (equal_c (HA.out.same HK12.out) HC12.out (by have := H100.out; omega) (by have := H100.out; omega)).mono ?_
    rintro e w13 ⟨rfl, K13⟩
    rw [decide_eq_true rfl]
    have HK13 := Lib.hid (HK12.out.trans K13 (fun _ _ h => h))
    have HD13 := Lib.hid (HD12.out.same K13)
    clear K13 HD12
    go_wp2_with (go_at_call 25; fail)
    refine (equal_c (HB.out.same HK13.out) HD13.out (by have := H100.out; omega) (by have := H100.out; omega)).mono ?_
    rintro e w14 ⟨rfl, K14⟩
    rw [decide_eq_true rfl]
    have HK14 := Lib.hid (HK13.out.trans K14 (fun _ _ h => h))
    clear K14 
    go_wp2_with (go_at_call 17; refine (works_c _).mono ?_; rintro e ww ⟨rfl, KW⟩)
    go_ret
    exact ⟨rfl, HK14.out.trans KW (fun _ _ h => h)⟩
end Go.Proofs.Ytaedijppbghnaaa

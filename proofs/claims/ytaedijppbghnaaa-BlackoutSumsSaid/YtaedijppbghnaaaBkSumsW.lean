/- The outright law of lengths. -/
import Derived.Test.YtaedijppbghnaaaBkCount
import Derived.Test.YtaedijppbghnaaaArQuiet
namespace Go.Proofs.Ytaedijppbghnaaa
open Go.RowKit
open Bk (Sp has chk vld)

/-- A slice value that reads as a valid list. -/
def Ld (W : World) (v : Value) (s : List Sp) : Prop := Prs W v s ∧ chk s = 0
theorem Ld.same {W W' : World} {v : Value} {s : List Sp} (h : Ld W v s) (K : Kept (fun _ => False) W W') : Ld W' v s := ⟨h.1.same K, h.2⟩
/-- Five lists in a block. -/
structure Five (W : World) (D : Nat) (ls : List (List Sp)) : Prop where
  lt : D < W.heap.size
  at_ : ∀ j s, ls[j]? = some s → ∃ v, W.cell? ⟨D, j, none⟩ = some v ∧ Ld W v s
theorem Five.same {W W' : World} {D : Nat} {ls : List (List Sp)} (h : Five W D ls) (K : Kept (fun _ => False) W W') : Five W' D ls :=
  ⟨Nat.lt_of_lt_of_le h.lt K.size, fun j s hs => by
    obtain ⟨v, h1, h2⟩ := h.at_ j s hs
    exact ⟨v, (K.cell (a := ⟨D, j, none⟩) h.lt (fun h => h)).trans h1, h2.same K⟩⟩
theorem Five.new {W : World} {v0 v1 v2 v3 v4 : Value} {s0 s1 s2 s3 s4 : List Sp} (t : Nat) (h0 : Ld W v0 s0) (h1 : Ld W v1 s1) (h2 : Ld W v2 s2) (h3 : Ld W v3 s3) (h4 : Ld W v4 s4) :
    Five (W.alloc (.cells #[v0, v1, v2, v3, v4] t)) W.heap.size [s0, s1, s2, s3, s4] := by
  refine ⟨by simp, fun j s hs => ?_⟩
  have K : Kept (fun _ => False) W (W.alloc (.cells #[v0, v1, v2, v3, v4] t)) := (Kept.refl _ _).alloc _
  match j with
  | 0 => simp at hs; subst hs; exact ⟨v0, by rw [World.cell?_alloc_at _ _ _ _ rfl]; rfl, h0.same K⟩
  | 1 => simp at hs; subst hs; exact ⟨v1, by rw [World.cell?_alloc_at _ _ _ _ rfl]; rfl, h1.same K⟩
  | 2 => simp at hs; subst hs; exact ⟨v2, by rw [World.cell?_alloc_at _ _ _ _ rfl]; rfl, h2.same K⟩
  | 3 => simp at hs; subst hs; exact ⟨v3, by rw [World.cell?_alloc_at _ _ _ _ rfl]; rfl, h3.same K⟩
  | 4 => simp at hs; subst hs; exact ⟨v4, by rw [World.cell?_alloc_at _ _ _ _ rfl]; rfl, h4.same K⟩
  | j + 5 => simp at hs
set_option maxRecDepth 100000 in
set_option maxHeartbeats 4000000 in
theorem sums_w {w : World} {va vb : Value} {l m : List (Int × Int)} (h : PrsK .u8 w va l) (h63 : l.length ≤ maxLen) (hcap : ∀ a n c, va = .slice a n c → n ≤ c ∧ c ≤ maxLen) (hz : Nz va) (hbd : ∀ x ∈ l, (0 ≤ x.1 ∧ x.1 ≤ 255) ∧ 0 ≤ x.2 ∧ x.2 ≤ 255)
    (g : PrsK .u8 w vb m) (g63 : m.length ≤ maxLen) (gcap : ∀ a n c, vb = .slice a n c → n ≤ c ∧ c ≤ maxLen) (gz : Nz vb) (gbd : ∀ x ∈ m, (0 ≤ x.1 ∧ x.1 ≤ 255) ∧ 0 ≤ x.2 ∧ x.2 ≤ 255)
    (fr to at' : Int) (f0 : 0 ≤ fr ∧ fr ≤ 255) (t0 : 0 ≤ to ∧ to ≤ 255) (a0 : 0 ≤ at' ∧ at' ≤ 255) :
    Calls Try.prog 3 #[va, vb, .int .u8 fr, .int .u8 to, .int .u8 at'] w (Tru w) := by
  have HS := Lib.hid (spans_c h h63 hcap hz hbd)
  have HS2 := Lib.hid (fun W K => spans_c (w := W) (g.same K) g63 gcap gz gbd)
  have ha := spn_200 hbd
  have hb := spn_200 gbd
  obtain ⟨p, cap, rfl⟩ := h.len
  obtain ⟨p2, cap2, rfl⟩ := g.len
  clear h h63 hcap hz hbd g g63 gcap gz gbd
  obtain ⟨a, hla⟩ : ∃ a, spn l = a := ⟨_, rfl⟩
  obtain ⟨b, hlb⟩ : ∃ b, spn m = b := ⟨_, rfl⟩
  rw [hla] at ha
  rw [hlb] at hb
  have HLA := Lib.hid hla
  have HLB := Lib.hid hlb
  clear hla hlb
  have HU := Lib.hid (rres_200 (want := wOr) rfl ha hb)
  have HM := Lib.hid (rres_200 (want := wAnd) rfl ha hb)
  have HW := Lib.hid (rres_200 (want := wNot) rfl ha hb)
  have HE2 : Hid (err2 a b = 0) := Lib.hid (err2_200 ha hb)
  have HA := Lib.hid ha
  have HB := Lib.hid hb
  clear ha hb
  have HLA64 : Hid ((a.length : Int) ≤ 9223372036854775807 ∧ (b.length : Int) ≤ 9223372036854775807) := Lib.hid (by have := HA.out.len; have := HB.out.len; omega)
  obtain ⟨x, hx⟩ : ∃ x, min fr to = x := ⟨_, rfl⟩
  obtain ⟨z, hz⟩ : ∃ z, max fr to = z := ⟨_, rfl⟩
  have hxz : (0 ≤ x ∧ x ≤ z) ∧ z ≤ 255 := by omega
  obtain ⟨⟨hx0, hxz1⟩, hz2⟩ := hxz
  obtain ⟨q, hq⟩ : ∃ q, at' % (z - x + 1) = q := ⟨_, rfl⟩
  have hq2 : 0 ≤ q ∧ q < z - x + 1 := by rw [← hq]; exact ⟨Int.emod_nonneg _ (by omega), Int.emod_lt_of_pos _ (by omega)⟩
  have hd0 : z - x + 1 ≠ 0 := by omega
  have hw1 : IntKind.i64.wrap (z - x) = z - x := IntWalk.i64_in _ (by omega)
  go_enter Try.func3, Try.ntmps3
  go_wp2_with (go_at_call 12; fail)
  refine HS.out.mono ?_
  rintro e w1 ⟨v1, rfl, hv1, -, K1⟩
  rw [HLA.out] at hv1
  have HVa1 := Lib.hid hv1
  have HK1 := Lib.hid K1
  clear hv1 K1
  go_wp2_with (go_at_call 12; fail)
  refine (HS2.out w1 HK1.out).mono ?_
  rintro e w2 ⟨v2, rfl, hv2, -, K2⟩
  rw [HLB.out] at hv2
  have HVa2 := Lib.hid (HVa1.out.same K2)
  have HVb2 := Lib.hid hv2
  have HK2 := Lib.hid (HK1.out.trans K2 (fun _ _ h => h))
  clear hv2 K2 HVa1
  go_wp2_with (go_at_call 13; fail)
  refine (op13_c HVa2.out HVb2.out HLA64.out.1 HLA64.out.2).mono ?_
  rintro e w3 ⟨vPu, rfl, hv, -, K3⟩
  rw [HE2.out, if_pos rfl] at hv
  rw [HE2.out]
  have HPu3 := Lib.hid hv
  have HK3 := Lib.hid (HK2.out.trans K3 (fun _ _ h => h))
  have HVa3 := Lib.hid (HVa2.out.same K3)
  have HVb3 := Lib.hid (HVb2.out.same K3)
  clear hv K3 HVa2 HVb2
  go_wp2_with (go_at_call 14; fail)
  refine (op14_c HVa3.out HVb3.out HLA64.out.1 HLA64.out.2).mono ?_
  rintro e w4 ⟨vPm, rfl, hv, -, K4⟩
  rw [HE2.out, if_pos rfl] at hv
  rw [HE2.out]
  have HPm4 := Lib.hid hv
  have HK4 := Lib.hid (HK3.out.trans K4 (fun _ _ h => h))
  have HVa4 := Lib.hid (HVa3.out.same K4)
  have HVb4 := Lib.hid (HVb3.out.same K4)
  have HPu4 := Lib.hid (HPu3.out.same K4)
  clear hv K4 HVa3 HVb3 HPu3
  go_wp2_with (go_at_call 15; fail)
  refine (op15_c HVa4.out HVb4.out HLA64.out.1 HLA64.out.2).mono ?_
  rintro e w5 ⟨vPw, rfl, hv, -, K5⟩
  rw [HE2.out, if_pos rfl] at hv
  rw [HE2.out]
  have HPw5 := Lib.hid hv
  have HK5 := Lib.hid (HK4.out.trans K5 (fun _ _ h => h))
  have HVa5 := Lib.hid (HVa4.out.same K5)
  have HVb5 := Lib.hid (HVb4.out.same K5)
  have HPu5 := Lib.hid (HPu4.out.same K5)
  have HPm5 := Lib.hid (HPm4.out.same K5)
  clear hv K5 HVa4 HVb4 HPu4 HPm4
  obtain ⟨p1, c1, rfl⟩ := HVa5.out.len
  obtain ⟨p2', c2, rfl⟩ := HVb5.out.len
  obtain ⟨p3, c3, rfl⟩ := HPu5.out.len
  obtain ⟨p4, c4, rfl⟩ := HPm5.out.len
  obtain ⟨p5, c5, rfl⟩ := HPw5.out.len
  have HFV := Lib.hid (Five.new 23 ⟨HVa5.out, HA.out.chk⟩ ⟨HVb5.out, HB.out.chk⟩ ⟨HPu5.out, HU.out.2.2.2.1⟩ ⟨HPm5.out, HM.out.2.2.2.1⟩ ⟨HPw5.out, HW.out.2.2.2.1⟩)
  have HK6 := Lib.hid (HK5.out.alloc (.cells #[.slice p1 a.length c1, .slice p2' b.length c2, .slice p3 (Bk.rres wOr a b).length c3, .slice p4 (Bk.rres wAnd a b).length c4, .slice p5 (Bk.rres wNot a b).length c5] 23))
  have HS2' := Lib.hid (sums_two HA.out HB.out hx0 hxz1 hz2)
  clear HVa5 HVb5 HPu5 HPm5 HPw5 HK5 HU HM HW HA HB HE2 HS HS2
  obtain ⟨ls, hls⟩ : ∃ ls, [a, b, Bk.rres wOr a b, Bk.rres wAnd a b, Bk.rres wNot a b] = ls := ⟨_, rfl⟩
  rw [hls] at HFV
  have HLS := Lib.hid hls
  have HLN : Hid (ls.length = 5) := Lib.hid (by rw [← hls]; rfl)
  clear hls
  go_wp2
  generalize w5.alloc (.cells #[.slice p1 a.length c1, .slice p2' b.length c2, .slice p3 (Bk.rres wOr a b).length c3, .slice p4 (Bk.rres wAnd a b).length c4, .slice p5 (Bk.rres wNot a b).length c5] 23) = w6 at HFV HK6 ⊢
  obtain ⟨D, hD⟩ : ∃ D, w5.heap.size = D := ⟨_, rfl⟩
  rw [hD] at HFV ⊢
  clear hD
  have HST := Lib.hid (AS.start w6)
  go_loopw [22, 87] (fun s i wr => ∃ j : Nat, j ≤ 5 ∧ i = .int .i64 j ∧ AS w6 wr s j ((ls.take j).map fun s => .int .i64 (lenF s x z))) (fun _ i _ => match i with | .int _ x => (5 - x).toNat | _ => 0)
  case atStart => exact ⟨0, by omega, rfl, HST.out⟩
  case round =>
    obtain ⟨j, hj, rfl, has⟩ := hrel
    have HAS := Lib.hid has
    clear has
    by_cases hlt : j < 5
    · have hjl : j < ls.length := by have := HLN.out; omega
      have HTK : Hid ((ls.take (j + 1)).map (fun s => Value.int .i64 (lenF s x z)) = (ls.take j).map (fun s => Value.int .i64 (lenF s x z)) ++ [.int .i64 (lenF ls[j] x z)]) := Lib.hid (by rw [List.take_add_one, List.getElem?_eq_getElem hjl, List.map_append]; rfl)
      obtain ⟨v, hc, hld⟩ := (HFV.out.same HAS.out.2.2).at_ j ls[j] (List.getElem?_eq_getElem hjl)
      generalize ls[j] = s at hld HTK
      obtain ⟨r1, r2, r3, r4, r5, r6, r7, r8⟩ := sums_one hld.2 hx0 (show x ≤ x + q by omega) (show x + q ≤ z by omega) hz2
      have HLD := Lib.hid hld
      obtain ⟨pv, cv, rfl⟩ := hld.1.len
      have HR1 := Lib.hid r1
      have HR2 := Lib.hid r2
      have HR3 := Lib.hid r3
      have HL9 : Hid ((s.length : Int) ≤ 9223372036854775807) := Lib.hid (by have := (Bk.chk_good.1 HLD.out.2).1; omega)
      clear r1 r2 r3 hld
      have HZB : Hid (j + 1 ≤ maxLen ∧ (j + 1) * 8 ≤ 140737488355328) := Lib.hid (by unfold maxLen; omega)
      by_cases hyz : x + q < z
      · rw [if_pos hyz] at r4 r8
        have HR3' := Lib.hid (HR3.out hyz)
        go_wp2_with (go_at_call 16; fail)
        refine (length_c (HLD.out.1.same (Kept.refl _ _)) HL9.out x z).mono ?_
        rintro e y1 ⟨rfl, Q1⟩
        rw [HR1.out]
        have HQ1 := Lib.hid Q1
        clear Q1
        go_wp2_with (go_at_call 16; fail)
        refine (length_c (HLD.out.1.same HQ1.out) HL9.out x (x + q)).mono ?_
        rintro e y2 ⟨rfl, Q2⟩
        rw [HR2.out]
        have HQ2 := Lib.hid (HQ1.out.trans Q2 (fun _ _ h => h))
        clear Q2
        go_wp2_with (go_at_call 16; fail)
        refine (length_c (HLD.out.1.same HQ2.out) HL9.out (x + q + 1) z).mono ?_
        rintro e y3 ⟨rfl, Q3⟩
        rw [HR3'.out]
        have HQ3 := Lib.hid (HQ2.out.trans Q3 (fun _ _ h => h))
        clear Q3
        generalize lenF s (x + q + 1) z = l3 at r4 r8
        generalize lenF s x (x + q) = l2 at r4 r7
        generalize lenF s x z = l1 at r4 r5 r6 HTK ⊢
        subst r4
        have HAS3 : Hid (AS w6 y3 u22 j ((ls.take j).map fun s => .int .i64 (lenF s x z)) ∧ wr.heap.size ≤ y3.heap.size) := Lib.hid ⟨HAS.out.step (ownsRow_kept HAS.out.1 HQ3.out (fun _ _ _ h => h)) (HQ3.out.mono fun _ _ h => h.elim), HQ3.out.size⟩
        go_wp2_with (at_builtin; go_loud (refine wpList_app2 el28 rfl (.tmp 145) (.tmp 147) rfl w6.heap.size u22 j ((ls.take j).map fun s => .int .i64 (lenF s x z)) rfl HAS3.out.1.1 rfl rfl (ints_one [l2 + l3]) HZB.out.1 HZB.out.2 HAS3.out.1.2.1 ?_; rintro g c w7 hown7 K7 -; have HAS7 := Lib.hid (HAS3.out.1.step hown7 K7); clear hown7 K7))
        have HAS8 : Hid (AS w6 w7 (.slice (some ⟨g, 0, none⟩) (j + 1) c) (j + 1) ((ls.take (j + 1)).map fun s => .int .i64 (lenF s x z))) := Lib.hid (by rw [HTK.out]; exact HAS7.out)
        go_roundw
        case rel => exact ⟨j + 1, by omega, by go_num, HAS8.out⟩
        case measure => simp; omega
      · rw [if_neg hyz] at r4 r8
        have HR3' := trivial
        go_wp2_with (go_at_call 16; fail)
        refine (length_c (HLD.out.1.same (Kept.refl _ _)) HL9.out x z).mono ?_
        rintro e y1 ⟨rfl, Q1⟩
        rw [HR1.out]
        have HQ1 := Lib.hid Q1
        clear Q1
        go_wp2_with (go_at_call 16; fail)
        refine (length_c (HLD.out.1.same HQ1.out) HL9.out x (x + q)).mono ?_
        rintro e y2 ⟨rfl, Q2⟩
        rw [HR2.out]
        have HQ3 := Lib.hid (HQ1.out.trans Q2 (fun _ _ h => h))
        clear Q2
        generalize lenF s x (x + q) = l2 at r4 r7 ⊢
        generalize lenF s x z = l1 at r4 r5 r6 HTK ⊢
        rw [Int.add_zero] at r4
        subst r4
        have HAS3 : Hid (AS w6 y2 u22 j ((ls.take j).map fun s => .int .i64 (lenF s x z)) ∧ wr.heap.size ≤ y2.heap.size) := Lib.hid ⟨HAS.out.step (ownsRow_kept HAS.out.1 HQ3.out (fun _ _ _ h => h)) (HQ3.out.mono fun _ _ h => h.elim), HQ3.out.size⟩
        go_wp2_with (at_builtin; go_loud (refine wpList_app2 el28 rfl (.tmp 145) (.tmp 147) rfl w6.heap.size u22 j ((ls.take j).map fun s => .int .i64 (lenF s x z)) rfl HAS3.out.1.1 rfl rfl (ints_one [l1]) HZB.out.1 HZB.out.2 HAS3.out.1.2.1 ?_; rintro g c w7 hown7 K7 -; have HAS7 := Lib.hid (HAS3.out.1.step hown7 K7); clear hown7 K7))
        have HAS8 : Hid (AS w6 w7 (.slice (some ⟨g, 0, none⟩) (j + 1) c) (j + 1) ((ls.take (j + 1)).map fun s => .int .i64 (lenF s x z))) := Lib.hid (by rw [HTK.out]; exact HAS7.out)
        go_roundw
        case rel => exact ⟨j + 1, by omega, by go_num, HAS8.out⟩
        case measure => simp; omega
    · obtain rfl : j = 5 := by omega
      have hrow := HAS.out.1
      rw [List.take_of_length_le (by have := HLN.out; omega), ← HLS.out] at hrow
      simp only [List.map_cons, List.map_nil] at hrow
      obtain ⟨e1, e2⟩ := HS2'.out
      have hb5 : ∀ s, s ∈ [a, b, Bk.rres wOr a b, Bk.rres wAnd a b, Bk.rres wNot a b] → 0 ≤ lenF s x z ∧ lenF s x z ≤ 256 := fun s hs => by
        rw [HLS.out] at hs
        obtain ⟨k, hk⟩ := List.getElem?_of_mem hs
        obtain ⟨v, -, hld⟩ := HFV.out.at_ k s hk
        obtain ⟨-, -, -, -, r5, r6, -⟩ := sums_one hld.2 hx0 (Int.le_refl x) hxz1 hz2
        omega
      have b0 := hb5 a (by simp)
      have b1 := hb5 b (by simp)
      have b2 := hb5 (Bk.rres wOr a b) (by simp)
      have b3 := hb5 (Bk.rres wAnd a b) (by simp)
      have b4 := hb5 (Bk.rres wNot a b) (by simp)
      generalize lenF a x z = s0 at hrow e1 e2 b0
      generalize lenF b x z = s1 at hrow e1 b1
      generalize lenF (Bk.rres wOr a b) x z = s2 at hrow e1 b2
      generalize lenF (Bk.rres wAnd a b) x z = s3 at hrow e1 e2 b3
      generalize lenF (Bk.rres wNot a b) x z = s4 at hrow e2 b4
      clear hb5
      obtain ⟨g, cg, rfl, -⟩ := ownsRow_pos hrow (by omega)
      have hlt2 := (ownsRow_block hrow (b := g) rfl).2
      have d0 : wr.cell? ⟨g, 0, none⟩ = some (.int .i64 s0) := by rw [hrow.cellAt 0 (by omega)]; rfl
      have d1 : wr.cell? ⟨g, 1, none⟩ = some (.int .i64 s1) := by rw [hrow.cellAt 1 (by omega)]; rfl
      have d2 : wr.cell? ⟨g, 2, none⟩ = some (.int .i64 s2) := by rw [hrow.cellAt 2 (by omega)]; rfl
      have d3 : wr.cell? ⟨g, 3, none⟩ = some (.int .i64 s3) := by rw [hrow.cellAt 3 (by omega)]; rfl
      have d4 : wr.cell? ⟨g, 4, none⟩ = some (.int .i64 s4) := by rw [hrow.cellAt 4 (by omega)]; rfl
      have HKF := Lib.hid (HK6.out.trans HAS.out.2.2 (fun _ _ h => h))
      clear hrow HAS HFV HLS HLN HS2' HK6 HST
      have i1 : IntKind.i64.wrap (s0 + s1) = s0 + s1 := IntWalk.i64_in _ (by omega)
      have i2 : IntKind.i64.wrap (s2 + s3) = s2 + s3 := IntWalk.i64_in _ (by omega)
      have i3 : IntKind.i64.wrap (s3 + s4) = s3 + s4 := IntWalk.i64_in _ (by omega)
      have HE := Lib.hid (And.intro e1 e2)
      go_wp2_with fail
      refine wp_region_class (fun W => (W.cell? ⟨g, 0, none⟩ = some (.int .i64 s0) ∧ W.cell? ⟨g, 1, none⟩ = some (.int .i64 s1) ∧ W.cell? ⟨g, 2, none⟩ = some (.int .i64 s2) ∧ W.cell? ⟨g, 3, none⟩ = some (.int .i64 s3) ∧ W.cell? ⟨g, 4, none⟩ = some (.int .i64 s4)) ∧ g < W.heap.size ∧ Kept (fun _ => False) w W) (by kernel_rfl) (by kernel_rfl) ⟨⟨d0, d1, d2, d3, d4⟩, hlt2, HKF.out.drew⟩ ?_
      clear d0 d1 d2 d3 d4
      iterate 14 (refine wpQuiet_yes rfl ?_ (fun W hC => ?_) ?_; rotate_left; (obtain ⟨⟨d0, d1, d2, d3, d4⟩, -, -⟩ := hC; go_simp; rfl); go_simp)
      refine wpQuiet_yes rfl (.bool true) (fun W hC => ?_) ?_
      · go_simp
        rw [IntWalk.i64_in _ (by omega)]
        omega
      go_simp
      iterate 14 (refine wpQuiet_yes rfl ?_ (fun W hC => ?_) ?_; rotate_left; (obtain ⟨⟨d0, d1, d2, d3, d4⟩, -, -⟩ := hC; go_simp; rfl); go_simp)
      refine wpQuiet_yes rfl (.bool true) (fun W hC => ?_) ?_
      · go_simp
        refine (works_c W).mono ?_
        rintro e W' ⟨rfl, K⟩
        obtain ⟨⟨d0, d1, d2, d3, d4⟩, l1, K0⟩ := hC
        exact ⟨rfl, ⟨(K.cell (a := ⟨g, 0, none⟩) l1 (fun h => h)).trans d0, (K.cell (a := ⟨g, 1, none⟩) l1 (fun h => h)).trans d1, (K.cell (a := ⟨g, 2, none⟩) l1 (fun h => h)).trans d2, (K.cell (a := ⟨g, 3, none⟩) l1 (fun h => h)).trans d3, (K.cell (a := ⟨g, 4, none⟩) l1 (fun h => h)).trans d4⟩, Nat.lt_of_lt_of_le l1 K.size, K0.trans K (fun _ _ h => h)⟩
      go_simp
      iterate 2 (refine wpQuiet_yes rfl ?_ (fun W hC => ?_) ?_; rotate_left; (obtain ⟨⟨d0, d1, d2, d3, d4⟩, -, -⟩ := hC; go_simp; rfl); go_simp)
      refine wpQuiet_nil ?_
      intro w15 _ _ _ _ _ _ K15
      go_wp2
      go_ret
      exact ⟨rfl, K15⟩
end Go.Proofs.Ytaedijppbghnaaa

/- OcReachesW: texts for the statements of this seat: contracts of functions, walks, plain laws. Conditions: none. -/
import Derived.Test.YthpbejdigllmbaaDoorOcWorks
import Derived.Test.YthpbejdigllmbaaDoorOcRows
import Derived.Test.YthpbejdigllmbaaDoorOcReaPlain
namespace Go.Proofs.YthpbejdigllmbaaDoor
open Go.RowKit

set_option maxHeartbeats 2000000 in
set_option maxRecDepth 100000 in
theorem reaches_c (x : Int) (x0 : 0 ≤ x) (x1 : x ≤ 255) (w : World) (T : Tbl w) : Calls Tryd.prog 10 #[.int .u8 x] w fun e w' => e = .returned (.bool true) ∧ Kept (fun _ => False) w w' := by
  have HT := Lib.hid T
  clear T
  obtain ⟨s, hs⟩ := Int.eq_ofNat_of_zero_le (show 0 ≤ x % 7 by omega)
  have hs7 : s < 7 := by omega
  have HS := Lib.hid hs
  have A1 := Lib.hid (reach_c s (reachT s) 0 w HT.out (by unfold reachF; rw [if_pos (by simp [isSt]; omega)]; rfl))
  clear hs
  go_enter Tryd.func10, Tryd.ntmps10
  go_wp2_with fail
  rw [HS.out]
  refine A1.out.mono ?_
  rintro r w1 ⟨v1, rfl, h1, K1⟩
  obtain ⟨hrp, hrl⟩ := reach_len ⟨s, hs7⟩
  simp only at hrp hrl
  obtain ⟨R, hR⟩ : ∃ R, (reachT s).length = R := ⟨_, rfl⟩
  rw [hR] at h1 hrp hrl
  obtain ⟨g1, c1, rfl, hg1⟩ := ownsRow_pos h1 hrp
  have A2 := Lib.hid (steps_yes s w1 (HT.out.same K1) (by simp [isSt]; omega))
  rw [Int.toNat_natCast] at A2
  have HR := Lib.hid hR
  have H1 := Lib.hid h1
  have HK1 := Lib.hid K1
  clear A1 h1 K1 hR
  go_wp2_with fail
  refine A2.out.mono ?_
  rintro r w2 ⟨v2, rfl, h2, K2⟩
  obtain ⟨L, hL⟩ : ∃ L, (stepsUpTo s 6).length = L := ⟨_, rfl⟩
  have hL6 : L ≤ 6 := by have := stepsUpTo_len s 6; omega
  rw [hL] at h2
  obtain ⟨a2, c2, hv2⟩ : ∃ a2 c2, v2 = .slice a2 L c2 := by
    rcases h2.2 with ⟨rfl, h0⟩ | ⟨g, cap, cur, rfl, -⟩
    · exact ⟨none, 0, by rw [h0]⟩
    · exact ⟨_, _, rfl⟩
  subst hv2
  have HL := Lib.hid hL
  have H2 := Lib.hid h2
  have H1 := Lib.hid (ownsRow_kept H1.out K2 (fun _ _ _ h => h))
  have HK2 := Lib.hid (HK1.out.trans K2 (fun _ _ h => h))
  have O3 : (w2.alloc (.cells #[.int .i64 s] 3)).ownsRow w2.heap.size 3 1 (.slice (some ⟨w2.heap.size, 0, none⟩) 1 1) (wantN s 0).length ((wantN s 0).map (Value.int .i64)) := World.ownsRow_lit w2 #[.int .i64 s] 1 (Nat.le_refl _) (by decide) rfl
  have HO3 := Lib.hid O3
  clear A2 h2 K2 hL HK1 O3
  go_wp2
  go_loopw [8, 42] (fun v i wr => ∃ k : Nat, k ≤ L ∧ i = .int .i64 k ∧ wr.ownsRow w2.heap.size 3 1 v (wantN s k).length ((wantN s k).map (Value.int .i64)) ∧ Kept (fun _ => False) w2 wr)
    (fun _ i _ => L - (intOf i).toNat)
  case atStart => exact ⟨0, by omega, rfl, HO3.out, (Kept.refl _ w2).alloc _⟩
  case round =>
    clear HO3
    obtain ⟨k, hk, rfl, hw, K⟩ := hrel
    obtain ⟨wa, rfl⟩ : ∃ wa : World, wa = wr := ⟨_, rfl⟩
    have hwl := want_len ⟨s, hs7⟩ ⟨k, by omega⟩
    simp only at hwl
    have KW := HK2.out.trans K (fun _ _ h => h)
    have hla := K.size
    by_cases hlt : k < L
    · obtain ⟨n1, n2, n3⟩ := nxt_ok ⟨s, hs7⟩ ⟨k, by omega⟩ (by simp only; have := HL.out; omega)
      simp only at n1 n2 n3
      obtain ⟨g2, c2', h2v, hg2⟩ := ownsRow_pos H2.out (by omega)
      injection h2v with e1 e2 e3
      subst e1 e3
      clear e2
      obtain ⟨t, ht⟩ : ∃ t, (stepsUpTo s 6).getD k 0 = t := ⟨_, rfl⟩
      have hct := (ownsRow_kept H2.out K (fun _ _ _ h => h)).cellAt k (by omega)
      rw [List.getElem?_map, List.getElem?_eq_getElem (by have := HL.out; omega)] at hct
      have hte : (stepsUpTo s 6)[k]'(by have := HL.out; omega) = t := by
        rw [← ht, List.getD_eq_getElem?_getD, List.getElem?_eq_getElem (by have := HL.out; omega)]; rfl
      rw [hte] at hct
      have hct : wa.cell? ⟨g2, k, none⟩ = some (.int .i64 t) := hct
      rw [ht] at n1 n2
      have B1 := Lib.hid (step_b s t wa (HT.out.same KW) (by simp [isSt]; omega) n1 (by rw [n2]; omega))
      rw [n2] at B1
      have B2 := Lib.hid (reach_yes (nxt s k) wa (HT.out.same KW) n3)
      have HWN : Hid (wantN s (k + 1) = wantN s k ++ reachT (nxt s k)) := Lib.hid rfl
      obtain ⟨m1, m2⟩ := reach_len ⟨nxt s k, n3⟩
      simp only at m1 m2
      have hw2 := want_len ⟨s, hs7⟩ ⟨k + 1, by omega⟩
      simp only at hw2
      have HW := Lib.hid hw
      have HK := Lib.hid K
      generalize nxt s k = nx at B1 B2 HWN m1 m2
      clear hte ht n1 n2 n3 hw KW K
      go_wp2_with fail
      refine B1.out.mono ?_
      rintro r w4 ⟨rfl, rfl⟩
      go_wp2_with fail
      refine B2.out.mono ?_
      rintro r w4 ⟨v4, rfl, h4, K4⟩
      obtain ⟨M, hM⟩ : ∃ M, (reachT nx).length = M := ⟨_, rfl⟩
      rw [hM] at h4 m1 m2
      obtain ⟨g4, c4, rfl, hg4⟩ := ownsRow_pos h4 m1
      have hw4 := ownsRow_kept HW.out K4 (fun _ _ _ h => h)
      have HM := Lib.hid hM
      have H4 := Lib.hid h4
      have HW4 := Lib.hid hw4
      have HK4 := Lib.hid (HK.out.trans K4 (fun _ _ h => h))
      have hl4 := K4.size
      clear hw4 h4 K4 hM HW HK B1 B2
      go_wp2_with (at_builtin; refine wpList_appRow el27 rfl (.tmp 63) (.tmp 64) rfl w2.heap.size u8 (wantN s k).length ((wantN s k).map (Value.int .i64)) rfl HW4.out g4 0 M c4 rfl (reachT nx) HM.out ?d1 ?d2 ?d3 ?_)
      case d1 =>
        intro j u hj
        rw [Nat.zero_add]
        have := (List.getElem?_eq_some_iff.1 hj).1
        rw [H4.out.cellAt j (by have := HM.out; omega), List.getElem?_map, hj]; rfl
      case d2 => omega
      case d3 => omega
      intro v5 w5 h5 K5
      have h5' : w5.ownsRow w2.heap.size 3 1 v5 (wantN s (k + 1)).length ((wantN s (k + 1)).map (Value.int .i64)) := by
        rw [HWN.out, List.map_append, List.length_append, HM.out]; exact h5
      have K05 := HK4.out.trans K5 (fun i hi h => by have := (ownsRow_block HW4.out h).1; omega)
      have HY := Lib.hid (And.intro h5' K05)
      clear h5 h5' K5 K05 HW4 H4 HK4
      go_wp2
      go_roundw
      case rel => exact ⟨k + 1, by omega, by go_num, HY.out.1, HY.out.2⟩
      case measure => simp [intOf]; omega
    · obtain rfl : L = k := by omega
      obtain ⟨q1, q2, q3⟩ := want_sorted ⟨s, hs7⟩
      simp only at q1 q2 q3
      rw [HL.out] at q1 q2 q3
      have hsr : srt (wantN s L) = isrt (wantN s L) := srt_eq (List.isPerm_iff.1 q1) q2
      have B1 := Lib.hid (sort_c (wantN s L) (by omega) hw)
      have hwp : 0 < (wantN s L).length := by
        have : ∀ s : Fin 7, ∀ k : Fin 8, 0 < (wantN s k).length := by decide +kernel
        exact this ⟨s, hs7⟩ ⟨L, by omega⟩
      obtain ⟨gw, cw, rfl, hgw⟩ := ownsRow_pos hw hwp
      have HSR := Lib.hid (And.intro hsr q3)
      have hsl : (srt (wantN s L)).length = (wantN s L).length := srt_length _
      have HSL := Lib.hid hsl
      have HKW := Lib.hid KW
      have H1a := Lib.hid (ownsRow_kept H1.out K (fun _ _ _ h => h))
      obtain ⟨N, hN⟩ : ∃ N, (wantN s L).length = N := ⟨_, rfl⟩
      rw [hN] at B1 hwp hwl
      have HN := Lib.hid hN
      have hgwl := (ownsRow_block hw (b := gw) rfl).1
      have hwb := HK2.out.size
      have hg1l := (ownsRow_block H1.out (b := g1) rfl).2
      have hg1w : g1 < w2.heap.size := hg1l
      rw [hN] at hw ⊢
      clear hsr q1 q2 q3 hsl hw K KW hN H1
      go_wp2_with fail
      refine B1.out.mono ?_
      rintro r w5 ⟨rfl, h5, K5⟩
      rw [HN.out] at h5
      have B2 := Lib.hid (compact_c (cap := cw) (srt (wantN s L)) (by rw [HSL.out, HN.out]) (by omega) hwp h5)
      have H1b := Lib.hid (ownsRow_kept H1a.out K5 (fun b hb hb2 h => by simp only [Value.ownBlock, Option.some.injEq] at hb2 h; omega))
      have HK5 := Lib.hid (HKW.out.trans K5 (fun i hi h => by simp only [Value.ownBlock, Option.some.injEq] at h; omega))
      clear h5 K5 B1 H1a HKW
      go_wp2_with fail
      refine B2.out.mono ?_
      rintro r w6 ⟨v6, rfl, I6, K6⟩
      rw [HSR.out.1, HSR.out.2] at I6
      have H1c := Lib.hid (ownsRow_kept H1b.out K6 (fun b hb hb2 h => by simp only [Value.ownBlock, Option.some.injEq] at hb2; omega))
      have HK6 := Lib.hid (HK5.out.trans K6 (fun i hi h => by omega))
      have I1 : Ints w6 (.slice (some ⟨g1, 0, none⟩) R c1) (reachT s) := by
        have := H1c.out
        refine IntsK.of_own (base := w.heap.size) (e := 3) ?_
        rw [HR.out]; exact this
      have B3 := Lib.hid (equal_c (.slice (some ⟨g1, 0, none⟩) R c1) v6 (reachT s) (reachT s) true w6 I1 I6 (by have := HR.out; omega) (by simp))
      have HI1 := Lib.hid I1
      clear I1 I6 K6 B2 H1b HK5
      go_wp2_with fail
      refine B3.out.mono ?_
      rintro r w7 ⟨rfl, nq, hw7⟩
      have K7 : Kept (fun _ => False) w6 w7 := hw7 ▸ drewN_kept _ _ _
      have KW7 := HK6.out.trans K7 (fun _ _ h => h)
      have I7 := HI1.out.same K7
      have T7 := HT.out.same KW7
      have hl7 : (reachT s).length ≤ 4611686018427387904 := by have := HR.out; omega
      have C4 := Lib.hid (reach_c (7 + (s : Int)) [] 3 w7 T7 (by unfold reachF; rw [if_neg (by simp [isSt]; omega)]))
      have C3 := Lib.hid (ends_c s (decide (s = 5 ∨ s = 6)) 0 w7 (by
        have e5 : ((s : Int) = 5 ∨ (s : Int) = 6) ↔ (s = 5 ∨ s = 6) := by omega
        unfold endsF; rw [if_pos (by simp [isSt]; omega)]; simp only [e5]))
      have hone := reach_one ⟨s, hs7⟩
      simp only at hone
      rw [HR.out] at hone
      have hrb : ((R : Int) == 1) = decide (s = 5 ∨ s = 6) := by
        rw [← hone, Bool.eq_iff_iff]; simp; omega
      have HK7 := Lib.hid KW7
      have HT7 := Lib.hid T7
      generalize decide (s = 5 ∨ s = 6) = B at C3 hrb hone
      rcases reach_has ⟨s, hs7⟩ with hh | ⟨-, hh, hh2⟩
      · simp only at hh
        have C1 := Lib.hid (contains_c _ (reachT s) 5 true w7 I7 hl7 hh)
        clear hh hone I7 T7 KW7 K7 hw7 B3 HI1 HK6 hl7
        go_wp2_with fail
        refine C1.out.mono ?_
        rintro r w8 ⟨rfl, rfl⟩
        go_wp2_with fail
        refine C3.out.mono ?_
        rintro r w8 ⟨rfl, rfl⟩
        go_wp2_with fail
        refine C4.out.mono ?_
        rintro r w8 ⟨v8, rfl, -, K8⟩
        have D1 := Lib.hid (works_c w8 (HT7.out.same K8))
        have HK8 := Lib.hid (HK7.out.trans K8 (fun _ _ h => h))
        clear K8
        go_wp2_with fail
        refine D1.out.mono ?_
        rintro r w9 ⟨rfl, K9⟩
        go_wp2
        go_ret
        exact ⟨rfl, HK8.out.trans K9 (fun _ _ h => h)⟩
      · simp only at hh hh2
        have C1 := Lib.hid (contains_c _ (reachT s) 5 false w7 I7 hl7 hh)
        have C2 := Lib.hid (contains_c _ (reachT s) 6 true w7 I7 hl7 hh2)
        clear hh hh2 hone I7 T7 KW7 K7 hw7 B3 HI1 HK6 hl7
        go_wp2_with fail
        refine C1.out.mono ?_
        rintro r w8 ⟨rfl, rfl⟩
        go_wp2_with fail
        refine C2.out.mono ?_
        rintro r w8 ⟨rfl, rfl⟩
        go_wp2_with fail
        refine C3.out.mono ?_
        rintro r w8 ⟨rfl, rfl⟩
        go_wp2_with fail
        refine C4.out.mono ?_
        rintro r w8 ⟨v8, rfl, -, K8⟩
        have D1 := Lib.hid (works_c w8 (HT7.out.same K8))
        have HK8 := Lib.hid (HK7.out.trans K8 (fun _ _ h => h))
        clear K8
        go_wp2_with fail
        refine D1.out.mono ?_
        rintro r w9 ⟨rfl, K9⟩
        go_wp2
        go_ret
        exact ⟨rfl, HK8.out.trans K9 (fun _ _ h => h)⟩
end Go.Proofs.YthpbejdigllmbaaDoor

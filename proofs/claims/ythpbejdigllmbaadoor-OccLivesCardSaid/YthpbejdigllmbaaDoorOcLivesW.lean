/- OcLivesW: texts for the statements of this seat: contracts of functions, walks, plain laws. Conditions: none. -/
import Derived.Test.YthpbejdigllmbaaDoorOcChoose
import Derived.Test.YthpbejdigllmbaaDoorOcArgs
namespace Go.Proofs.YthpbejdigllmbaaDoor
open Go.RowKit

theorem cell_own {w : World} {base e g n cap : Nat} {xs : List Int} (h : w.ownsRow base e 1 (.slice (some ⟨g, 0, none⟩) n cap) n (xs.map (Value.int .i64))) {j : Nat} {x : Int} (hx : xs[j]? = some x) (hn : xs.length = n) : w.cell? ⟨g, j, none⟩ = some (.int .i64 x) := by
  have := (List.getElem?_eq_some_iff.1 hx).1
  rw [h.cellAt j (by omega), List.getElem?_map, hx]; rfl

set_option maxHeartbeats 4000000 in
set_option maxRecDepth 100000 in
theorem lives_c (v : Value) (l : List Nat) (w : World) (T : Tbl w) (hI : IntsK .u8 w v (natI l)) (hm : l.length ≤ maxLen) (hb8 : ∀ x ∈ l, x ≤ 255) :
    Calls Tryd.prog 8 #[v] w fun e w' => e = .returned (.bool true) ∧ Kept (fun _ => False) w w' := by
  unfold maxLen at hm
  obtain ⟨a, cap, hv⟩ := hI.len
  rw [show (natI l).length = l.length by simp [natI]] at hv
  subst hv
  have HT := Lib.hid T
  have HI := Lib.hid hI
  have HW := Lib.hid (works_c w T)
  clear T hI
  by_cases hlt : 300 < l.length
  · generalize l.length = n at hm hlt HI ⊢
    go_enter Tryd.func8, Tryd.ntmps8
    go_wp2_with fail
    refine HW.out.mono ?_
    rintro r w1 ⟨rfl, K⟩
    go_wp2
    go_ret
    exact ⟨rfl, K⟩
  · have A1 := Lib.hid (choose_c _ l w HT.out HI.out (by omega) hb8)
    obtain ⟨k1, k2⟩ := life_counts l
    have hpa := life_path l
    have hat := life_att l
    have hend := life_end l
    obtain ⟨b1, b2⟩ := last_st l
    have hlst := cStates_last l
    have hsl := cSteps_le l
    have hst := cStates_length l
    have HAT := Lib.hid (life_at l)
    obtain ⟨S, hS⟩ : ∃ S, cSteps l = S := ⟨_, rfl⟩
    obtain ⟨Q, hQ⟩ : ∃ Q, cStates l = Q := ⟨_, rfl⟩
    have A1 : Hid (Calls Tryd.prog 32 #[.slice a l.length cap] w fun e w' => ∃ v6 v7, e = .returned (.tuple #[v6, v7, .bool true]) ∧ w'.ownsRow w.heap.size 3 1 v6 S.length (S.map (Value.int .i64)) ∧
        w'.ownsRow w.heap.size 3 1 v7 Q.length (Q.map (Value.int .i64)) ∧ Kept (fun _ => False) w w') := Lib.hid (by rw [← hS, ← hQ]; exact A1.out)
    generalize lastOf (chs 0 l) = lst at k1 k2 hpa hend b1 b2 hlst
    rw [hS] at k1 k2 hpa hat hend hlst hst HAT hsl
    rw [hQ] at hlst hst HAT
    have hln : l.length ≤ 300 := by omega
    obtain ⟨n, hn⟩ : ∃ n, l.length = n := ⟨_, rfl⟩
    rw [hn] at A1 hlt hln hsl ⊢
    obtain ⟨m, hmm⟩ : ∃ m, S.length = m := ⟨_, rfl⟩
    rw [hmm] at hst hlst hpa hsl A1
    rw [hst] at A1
    have HS := Lib.hid (And.intro hmm (And.intro hst hlst))
    have HPA := Lib.hid hpa
    have HATT := Lib.hid hat
    have HEND := Lib.hid hend
    obtain ⟨c3, hc3⟩ : ∃ c, S.count 3 = c := ⟨_, rfl⟩
    obtain ⟨c4, hc4⟩ : ∃ c, S.count 4 = c := ⟨_, rfl⟩
    obtain ⟨c5, hc5⟩ : ∃ c, S.count 5 = c := ⟨_, rfl⟩
    rw [hc3, hc4, hc5] at k1
    rw [hc4] at k2
    have hcs : (lst = 3 ∧ c4 = 0 ∧ c3 = c5 + 1) ∨ (lst ≠ 3 ∧ c4 = 0 ∧ c5 = c3) ∨ (lst ≠ 3 ∧ c4 = 1 ∧ c3 = 1 + c5) := by
      split at k1 <;> simp_all <;> omega
    have hc5b : c5 ≤ 1000000 := by have := List.count_le_length (a := (5 : Int)) (l := S); omega
    have HC3 := Lib.hid hc3
    have HC4 := Lib.hid hc4
    have HC5 := Lib.hid hc5
    have hm1 : m ≤ 300 := by omega
    clear hS hQ hn hmm hst hlst hpa hat hend k1 k2 hc3 hc4 hc5 hm hsl hlt
    go_enter Tryd.func8, Tryd.ntmps8
    go_wp2_with fail
    refine A1.out.mono ?_
    rintro r w1 ⟨v6, v7, rfl, h6, h7, K1⟩
    have T1 := HT.out.same K1
    have I6 : Ints w1 v6 S := IntsK.of_own (by rw [HS.out.1]; exact h6)
    obtain ⟨a6, d6, hv6⟩ := I6.len
    rw [HS.out.1] at hv6
    subst hv6
    obtain ⟨g7, d7, rfl, hg7⟩ := ownsRow_pos h7 (by omega)
    have A2 := Lib.hid (path_c _ S (by have := HS.out.1; omega) w1 T1 I6)
    have H6 := Lib.hid h6
    have H7 := Lib.hid h7
    have HI6 := Lib.hid I6
    have HT1 := Lib.hid T1
    have HK1 := Lib.hid K1
    clear A1 h6 h7 K1 T1 I6
    go_wp2_with fail
    refine A2.out.mono ?_
    rintro r w2 ⟨rfl, K2⟩
    rw [HPA.out]
    have A3 := Lib.hid (att_c _ S (by have := HS.out.1; omega) w2 (HT1.out.same K2) (HI6.out.same K2))
    have HK2 := Lib.hid K2
    clear A2 K2
    go_wp2_with fail
    refine A3.out.mono ?_
    rintro r w3 ⟨rfl, K3⟩
    rw [HATT.out, HC3.out]
    have K13 := HK2.out.trans K3 (fun _ _ h => h)
    have H63 := Lib.hid (ownsRow_kept H6.out K13 (fun _ _ _ h => h))
    have h73 := ownsRow_kept H7.out K13 (fun _ _ _ h => h)
    have hcl := cell_own h73 HS.out.2.2 HS.out.2.1
    have H73 := Lib.hid h73
    have HI63 := Lib.hid (HI6.out.same K13)
    have HK3 := Lib.hid (HK1.out.trans K13 (fun _ _ h => h))
    have hls : S.length ≤ 4611686018427387904 := by have := HS.out.1; omega
    have B4 := Lib.hid (count_c (.slice a6 m d6) S 4 c4 w3 HI63.out hls HC4.out)
    have B5 := Lib.hid (count_c (.slice a6 m d6) S 5 c5 w3 HI63.out hls HC5.out)
    have B3 := Lib.hid (count_c (.slice a6 m d6) S 3 c3 w3 HI63.out hls HC3.out)
    have E1 : Hid (endsF lst = (match S.getLast? with | some t => decide (t = 4 ∨ t = 6) | none => false, 0)) := HEND
    clear K3 K13 A3 HK2 h73 hls
    clear hb8
    rcases hcs with ⟨rfl, rfl, rfl⟩ | ⟨hl3, rfl, rfl⟩ | ⟨hl3, rfl, rfl⟩
    all_goals
      have hq1 : ((c5 : Int) != (c5 : Int) + 1) = true := by simp; omega
      have hq2 : ((c5 : Int) != (c5 : Int) + 1 - 1) = false := by simp
      have hq3 : ((c5 : Int) != 1 + (c5 : Int)) = true := by simp; omega
      have hq4 : ((c5 : Int) != 1 + (c5 : Int) - 1) = false := by simp; omega
      go_wp2_with fail
      refine B4.out.mono ?_
      rintro r w4 ⟨rfl, rfl⟩
      first
        | rw [show ((0 : Nat) : Int) = 0 from rfl]
        | rw [show ((1 : Nat) : Int) = 1 from rfl]
      go_wp2_with fail
      refine B5.out.mono ?_
      rintro r w4 ⟨rfl, rfl⟩
      go_wp2_with fail
      refine B3.out.mono ?_
      rintro r w4 ⟨rfl, rfl⟩
      clear B3 B4 B5
      go_wp2
      clear hq1 hq2 hq3 hq4
      go_loop [103] (fun i => ∃ k : Nat, k ≤ m ∧ i = .int .i64 k) (fun i => m - (intOf i).toNat)
      case atStart => exact ⟨0, by omega, rfl⟩
      case round =>
        obtain ⟨k, hk, rfl⟩ := hrel
        by_cases hkm : k < m
        · obtain ⟨t, ht⟩ : ∃ t, S[k]? = some t := ⟨_, List.getElem?_eq_getElem (by have := HS.out.1; omega)⟩
          obtain ⟨q, hq, f1, f2, f3⟩ := HAT.out k t ht
          obtain ⟨g6, d6', h6v, hg6⟩ := ownsRow_pos H63.out (by omega)
          injection h6v with v1 v2 v3
          subst v1 v3
          clear v2
          have hct := cell_own H63.out ht HS.out.1
          have hcq := cell_own H73.out hq HS.out.2.1
          rw [HS.out.1] at f1
          clear ht hq
          by_cases t4 : t = 4
          · subst t4
            have e1 : ((k : Int) != (m : Int) - 1) = false := by simp; have := f1 (.inl rfl); omega
            clear f1 f2 f3
            go_wp2
            go_round
            case rel => exact ⟨k + 1, by omega, by go_num⟩
            case measure => simp [intOf]; omega
          · by_cases t6 : t = 6
            · subst t6
              have e1 : ((k : Int) != (m : Int) - 1) = false := by simp; have := f1 (.inr rfl); omega
              have e2 : (q == 3) = false := by simpa using f2 rfl
              clear f1 f2 f3 t4
              go_wp2
              go_round
              case rel => exact ⟨k + 1, by omega, by go_num⟩
              case measure => simp [intOf]; omega
            · by_cases t3 : t = 3
              · subst t3
                have e1 := f3 rfl
                subst e1
                clear f1 f2 f3 t4 t6
                go_wp2
                go_round
                case rel => exact ⟨k + 1, by omega, by go_num⟩
                case measure => simp [intOf]; omega
              · have e1 : (t == 4) = false := by simpa using t4
                have e2 : (t == 6) = false := by simpa using t6
                have e3 : (t == 3) = false := by simpa using t3
                clear f1 f2 f3 t4 t6 t3
                go_wp2
                go_round
                case rel => exact ⟨k + 1, by omega, by go_num⟩
                case measure => simp [intOf]; omega
        · obtain rfl : m = k := by omega
          have TT := HT.out.same HK3.out
          by_cases hm0 : m = 0
          · have hS0 : S = [] := List.eq_nil_of_length_eq_zero (by have := HS.out.1; omega)
            have AE := Lib.hid (ends_c _ false 0 w3 (E1.out.trans (by rw [hS0]; rfl)))
            have AW := Lib.hid (works_c w3 TT)
            have hmz : decide (0 < m) = false := by simp; omega
            have hmz2 : decide ((0 : Int) < (m : Int)) = false := by simp; omega
            have hmz3 : ¬ (0 : Int) < (m : Int) := by omega
            clear TT hm0 hS0 hkm hk
            go_wp2_with fail
            refine AE.out.mono ?_
            rintro r w4 ⟨rfl, rfl⟩
            go_wp2_with fail
            refine AW.out.mono ?_
            rintro r w5 ⟨rfl, K5⟩
            go_wp2
            go_ret
            exact ⟨rfl, HK3.out.trans K5 (fun _ _ h => h)⟩
          · obtain ⟨t, ht⟩ : ∃ t, S[m - 1]? = some t := ⟨_, List.getElem?_eq_getElem (by have := HS.out.1; omega)⟩
            have hgl : S.getLast? = some t := by rw [List.getLast?_eq_getElem?, HS.out.1]; exact ht
            obtain ⟨g6, d6', h6v, hg6⟩ := ownsRow_pos H63.out (by omega)
            injection h6v with v1 v2 v3
            subst v1 v3
            clear v2
            have hct := cell_own H63.out ht HS.out.1
            have hmp : (0 : Int) < (m : Int) := by omega
            have AW := Lib.hid (works_c w3 TT)
            have E2 := Lib.hid hgl
            clear TT ht hkm hk hgl
            by_cases t4 : t = 4
            · have AE := Lib.hid (ends_c _ true 0 w3 (E1.out.trans (by rw [E2.out, t4]; rfl)))
              subst t4
              go_wp2_with fail
              refine AE.out.mono ?_
              rintro r w4 ⟨rfl, rfl⟩
              go_wp2_with fail
              refine AW.out.mono ?_
              rintro r w5 ⟨rfl, K5⟩
              go_wp2
              go_ret
              exact ⟨rfl, HK3.out.trans K5 (fun _ _ h => h)⟩
            · by_cases t6 : t = 6
              · have AE := Lib.hid (ends_c _ true 0 w3 (E1.out.trans (by rw [E2.out, t6]; rfl)))
                subst t6
                clear t4
                go_wp2_with fail
                refine AE.out.mono ?_
                rintro r w4 ⟨rfl, rfl⟩
                go_wp2_with fail
                refine AW.out.mono ?_
                rintro r w5 ⟨rfl, K5⟩
                go_wp2
                go_ret
                exact ⟨rfl, HK3.out.trans K5 (fun _ _ h => h)⟩
              · have AE := Lib.hid (ends_c _ false 0 w3 (E1.out.trans (by rw [E2.out]; simp [t4, t6])))
                have e1 : (t == 4) = false := by simpa using t4
                have e2 : (t == 6) = false := by simpa using t6
                clear t4 t6
                go_wp2_with fail
                refine AE.out.mono ?_
                rintro r w4 ⟨rfl, rfl⟩
                go_wp2_with fail
                refine AW.out.mono ?_
                rintro r w5 ⟨rfl, K5⟩
                go_wp2
                go_ret
                exact ⟨rfl, HK3.out.trans K5 (fun _ _ h => h)⟩
end Go.Proofs.YthpbejdigllmbaaDoor
namespace Go.Proofs.YthpbejdigllmbaaDoor
open Go.RowKit
theorem lives_args (p : Option Addr) (cap : Nat) (xs : List Int) (hm : xs.length ≤ maxLen) (w : World) (T : Tbl w)
    (h : ∀ i x, xs[i]? = some x → (Lit.int .u8 x).wf = true ∧ ∃ b off, p = some ⟨b, off, none⟩ ∧ b < w.heap.size ∧ w.cell? ⟨b, off + i, none⟩ = some (.int .u8 x)) :
    Calls Tryd.prog 8 #[.slice p xs.length cap] w fun e w' => e = .returned (.bool true) ∧ Kept (fun _ => False) w w' := by
  obtain ⟨l, hl, hb, hI⟩ := u8_nats (cap := cap) h
  exact lives_c _ l w T hI (by omega) hb
end Go.Proofs.YthpbejdigllmbaaDoor

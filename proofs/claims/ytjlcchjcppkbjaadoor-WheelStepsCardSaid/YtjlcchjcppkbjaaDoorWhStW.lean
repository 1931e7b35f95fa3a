/- WhStW: texts for the statements of this seat: contracts of functions, walks, plain laws. Conditions: none. -/
import Derived.Test.YtjlcchjcppkbjaaDoorWhLaw0
import Derived.Test.YtjlcchjcppkbjaaDoorWhDuo
import Derived.Test.YtjlcchjcppkbjaaDoorWhGrow
import Derived.Test.YtjlcchjcppkbjaaDoorGeAll
set_option linter.all false
/- WheelSteps. -/
namespace Go.Proofs.YtjlcchjcppkbjaaDoor
open Go.RowKit
variable {w w' : World} {F : Nat → Prop}
set_option maxRecDepth 100000 in
set_option maxHeartbeats 4000000 in
theorem wheelSteps_w {v u : Value} {l : List Sp} {st : List Int} (hT : Tab w) (now : Int) (hl : Rows spC 4 w v l) (hm : l.length ≤ maxLen) (hwf : ∀ x ∈ l, x.wf) (hst : IntsK .i64 w u st) (hsm : st.length ≤ maxLen) : Calls Tryd.prog 7 #[.int .i64 now, v, u] w fun e w' => e = .returned (.bool true) ∧ Kept (fun _ => False) w w' := by
  have HWK := Lib.hid (works_c hT)
  obtain ⟨p, c, rfl⟩ := hl.len
  obtain ⟨p2, c2, rfl⟩ := hst.len
  have hmm : (maxLen : Int) = 9223372036854775807 := rfl
  by_cases g1 : l.length > 60
  · have d1 : decide ((60 : Int) < (l.length : Int)) = true := by simp; omega
    clear hT hl hwf hst
    go_enter Tryd.func7, Tryd.ntmps7
    go_wp2_with (go_at_call 13; refine HWK.out.mono ?_; rintro e w' ⟨rfl, K⟩; have HK := Lib.hid K; clear K)
    go_ret
    exact ⟨rfl, HK.out⟩
  have d1 : decide ((60 : Int) < (l.length : Int)) = false := by simp; omega
  by_cases g4 : st.length > 20
  · have d4 : decide ((20 : Int) < (st.length : Int)) = true := by simp; omega
    clear hT hl hwf hst
    go_enter Tryd.func7, Tryd.ntmps7
    go_wp2_with (go_at_call 13; refine HWK.out.mono ?_; rintro e w' ⟨rfl, K⟩; have HK := Lib.hid K; clear K)
    go_ret
    exact ⟨rfl, HK.out⟩
  have d4 : decide ((20 : Int) < (st.length : Int)) = false := by simp; omega
  by_cases g2 : now < 0
  · clear hT hl hwf hst
    go_enter Tryd.func7, Tryd.ntmps7
    go_wp2_with (go_at_call 13; refine HWK.out.mono ?_; rintro e w' ⟨rfl, K⟩; have HK := Lib.hid K; clear K)
    go_ret
    exact ⟨rfl, HK.out⟩
  by_cases g3 : now > 4611686018427387904
  · clear hT hl hwf hst
    go_enter Tryd.func7, Tryd.ntmps7
    go_wp2_with (go_at_call 13; refine HWK.out.mono ?_; rintro e w' ⟨rfl, K⟩; have HK := Lib.hid K; clear K)
    go_ret
    exact ⟨rfl, HK.out⟩
  have HFL := Lib.hid (filled_c (F := fun _ => False) (now := now) hT hl (by omega) hwf (by omega) (by omega) (fun _ h => h.elim))
  have HR := Lib.hid (run_new now l (k := 60) (by omega))
  have HST := Lib.hid hst
  clear hT hl hwf hst
  generalize (Wh.new 60 now).run l = W at HFL HR
  go_enter Tryd.func7, Tryd.ntmps7
  go_wp2_with (first | (go_at_call 23; refine HFL.out.mono ?_; rintro e w1 ⟨B, rfl, h⟩; have H1 := Lib.hid h; clear h) | (go_at_call 26; refine (d_copy H1.out (fun _ h => h.elim)).mono ?_; rintro e w2 ⟨B2, rfl, h, -⟩; have H2 := Lib.hid h; clear h) | (go_at_call 21; refine (d_now H2.out).mono ?_; rintro e w' ⟨rfl, hww⟩; obtain rfl := hww.symm))
  have HOK := Lib.hid H2.out.ok
  go_loopw [9, 10, 11] (fun s9 s10 s11 wr => ∃ (k : Nat) (last : Int) (X : Wh), k ≤ st.length ∧ s11 = .int .i64 k ∧ s10 = .int .i64 last ∧ W.now ≤ last ∧ last ≤ NEVER ∧ Own wr w2.heap.size s9 ((due last W.l).map Tm.fd) ∧ w2.heap.size ≤ wr.heap.size ∧ X.l = rest last W.l ∧ X.now = last ∧ Wl2 w wr (fun b => s9.ownBlock = some b) B B2 X W) (fun _ _ s11 _ => st.length - (intOf s11).toNat)
  case atStart =>
    refine ⟨0, W.now, W, Nat.zero_le _, rfl, rfl, Int.le_refl _, HOK.out.now.2, ?_, Nat.le_refl _, (due_now HOK.out).2.symm, rfl, H2.out.mono fun b q => by simp [Value.ownBlock] at q⟩
    rw [(due_now HOK.out).1]
    exact Own.nil _ _
  case round =>
    obtain ⟨k, last, X, hk, rfl, rfl, hl0, hl1, ho, hsz0, hXl, hXn, hW⟩ := hrel
    have HW := Lib.hid hW
    have HO := Lib.hid ho
    have HXL := Lib.hid hXl
    have HSZ0 := Lib.hid hsz0
    clear hsz0
    have HXN := Lib.hid hXn
    obtain ⟨p9, c9, rfl⟩ := ho.sl
    have hfl : ((due last W.l).map Tm.fd).length = (due last W.l).length := List.length_map _
    rw [hfl] at HW HO hW ho ⊢
    have hN : NEVER = 4611686018427387904 := rfl
    have hw0 := HOK.out.now
    have hl60 := HR.out.2
    have hdn := due_len last W.l
    clear hW ho hXl hXn hfl
    have j0 : 0 ≤ last := by omega
    have j00 : last ≤ 4611686018427387904 := by omega
    by_cases hlt : k < st.length
    · obtain ⟨s, hs⟩ : ∃ s, st[k]? = some s := ⟨_, List.getElem?_eq_getElem hlt⟩
      obtain ⟨b, off, c', hv, bl, hcells⟩ := (HST.out.same HW.out.kept0).pos (by omega)
      have f0 := hcells k s hs
      injection hv with hv hvn hc
      clear hvn hcells
      subst hv hc
      have j1 : (0 : Int) ≤ (k : Int) := by omega
      have j2 : (k : Int) < (st.length : Int) := by omega
      have HF0 : Hid (w.cell? ⟨b, off + k, none⟩ = some (.int .i64 s) ∧ b < w.heap.size) := Lib.hid (by
        obtain ⟨b', off', c', hv, bl', hcells⟩ := HST.out.pos (by omega)
        injection hv with hv hvn hc
        injection hv with hv
        injection hv with hv1 hv2 _
        subst hv1 hv2
        exact ⟨hcells k s hs, bl'⟩)
      clear hs
      by_cases hs1 : s < last
      · have e1 : decide (s < last) = true := by simpa using hs1
        go_wp2_with fail
        go_roundw
        case rel => exact ⟨k + 1, last, X, by omega, by go_num, rfl, hl0, hl1, HO.out, HSZ0.out, HXL.out, HXN.out, HW.out⟩
        case measure => simp [intOf]; omega
      · have e1 : decide (s < last) = false := by simpa using hs1
        by_cases hs2 : s > 4611686018427387904
        · have e2 : decide (4611686018427387904 < s) = true := by simpa using hs2
          go_wp2_with fail
          go_roundw
          case rel => exact ⟨k + 1, last, X, by omega, by go_num, rfl, hl0, hl1, HO.out, HSZ0.out, HXL.out, HXN.out, HW.out⟩
          case measure => simp [intOf]; omega
        · have e2 : decide (4611686018427387904 < s) = false := by simpa using hs2
          obtain ⟨X', hadv, hx1, hx2, -⟩ := adv_step HW.out.ok (s := s) (by rw [HXN.out]; omega) (by omega)
          rw [HXL.out] at hadv hx1
          obtain ⟨dd, hdd⟩ : ∃ dd, due s (rest last W.l) = dd := ⟨_, rfl⟩
          have HSP := Lib.hid (due_split (s := last) (t := s) (by omega) W.l)
          have HBT := Lib.hid (due_between (W := W) (last := last) (s := s) HOK.out.sorted)
          have hdl := due_len s (rest last W.l)
          rw [hdd] at hadv HSP HBT hdl
          have HADV := Lib.hid hadv
          have HX1 := Lib.hid hx1
          have HX2 := Lib.hid hx2
          clear hadv hx1 hx2 hdd
          go_wp2_with fail
          refine (d_advance HW.out HADV.out).mono ?_
          rintro e w3 ⟨v3, rfl, ho3, h, K⟩
          obtain ⟨p3, c3, rfl⟩ := ho3.sl
          have hfl : (dd.map Tm.fd).length = dd.length := List.length_map _
          rw [hfl] at ho3 h ⊢
          have HO3 := Lib.hid ho3
          have H3 := Lib.hid h
          have HO' := Lib.hid (HO.out.kept K (fun b _ q s => s q))
          have HKS := Lib.hid K.size
          clear ho3 h K hfl f0
          go_wp2_with fail
          go_loopw [14] (fun s14 wr => ∃ (j : Nat), j ≤ dd.length ∧ s14 = .int .i64 j ∧ Kept (fun _ => False) w3 wr) (fun s14 _ => dd.length - (intOf s14).toNat)
          case atStart => exact ⟨0, Nat.zero_le _, rfl, Kept.refl _ _⟩
          case round =>
            obtain ⟨j, hj, rfl, K⟩ := hrel
            have HK := Lib.hid K
            clear K
            have fs : wr.cell? ⟨b, off + k, none⟩ = some (.int .i64 s) := ((H3.out.same HK.out).kept0.cell (a := ⟨b, off + k, none⟩) HF0.out.2 (fun h => h)).trans HF0.out.1
            have bls := Nat.lt_of_lt_of_le HF0.out.2 (H3.out.same HK.out).kept0.size
            by_cases hjt : j < dd.length
            · obtain ⟨t, ht⟩ : ∃ t, dd[j]? = some t := ⟨_, List.getElem?_eq_getElem hjt⟩
              have hta := HBT.out t (List.mem_of_getElem? ht)
              have ht' : (dd.map Tm.fd)[j]? = some t.fd := by rw [List.getElem?_map, ht]; rfl
              obtain ⟨b3, off3, c', hv, a0, -, bl3⟩ := fd_at HO3.out.rows ht'
              injection hv with hv hvn hc
              clear hvn
              subst hv hc
              have f0 : wr.cell? ⟨b3, off3 + j * 2, none⟩ = some (.int .i64 t.at_) := (HK.out.cell (a := ⟨b3, off3 + j * 2, none⟩) bl3 (fun h => h)).trans a0
              have blr := Nat.lt_of_lt_of_le bl3 HK.out.size
              have i1 : (0 : Int) ≤ (j : Int) := by omega
              have i2 : (j : Int) < (dd.length : Int) := by omega
              have i3 : decide (t.at_ ≤ last) = false := by simp only [decide_eq_false_iff_not]; omega
              have i4 : decide (s < t.at_) = false := by simp only [decide_eq_false_iff_not]; omega
              clear a0 ht ht' hta
              go_wp2_with fail
              go_quiet (fail)
              go_wp2_with fail
              go_roundw
              case rel => exact ⟨j + 1, by omega, by go_num, HK.out.drewN nq⟩
              case measure => simp [intOf]; omega
            · obtain rfl : j = dd.length := by omega
              have H4 := Lib.hid (H3.out.same HK.out)
              have HO4 := Lib.hid (HO'.out.same HK.out)
              have HR4 := Lib.hid (HO3.out.rows.same HK.out)
              have HSZ : Hid (w2.heap.size ≤ wr.heap.size) := Lib.hid (by
                have h1 := HKS.out; have h2 := HK.out.size; have h3 := HSZ0.out; omega)
              clear HK hjt hj
              have HLO : Hid (∀ b', (Value.slice p9 (due last W.l).length c9).ownBlock = some b' → w.heap.size ≤ b') := Lib.hid fun b' q => by
                have h1 := ownsRow_block HO4.out q
                have h2 := H2.out.kept0.size
                omega
              go_wp2_with (at_builtin; refine wpList_appRows el36 fdC_len fdC_one rfl (.tmp 98) (.tmp 99) rfl w2.heap.size _ _ (due last W.l).length (cellsL fdC ((due last W.l).map Tm.fd)) (dd.map Tm.fd) rfl rfl (by have := HO4.out; unfold Own at this; rw [List.length_map] at this; exact this) HR4.out (by rw [List.length_map]; unfold maxLen; omega) (by rw [List.length_map]; omega) HSZ.out ?_; intro v6 w6 hown6 K6 hb6; have H6 := Lib.hid (Wl2.grow (G := fun b => v6.ownBlock = some b) H4.out K6 (fun b q => .inl q) (fun b hb q => by have := HLO.out b q; omega) (fun b q => ⟨(ownsRow_block hown6 q).2, (hb6 b q).imp .inl id⟩)); have HO6 := Lib.hid hown6; have HS6 := Lib.hid (Nat.le_trans HSZ.out K6.size); clear fs bls hown6 K6 hb6; have fs : w6.cell? ⟨b, off + k, none⟩ = some (.int .i64 s) := (H6.out.kept0.cell (a := ⟨b, off + k, none⟩) HF0.out.2 (fun h => h)).trans HF0.out.1; have bls := Nat.lt_of_lt_of_le HF0.out.2 H6.out.kept0.size)
              go_roundw
              case rel =>
                refine ⟨k + 1, s, X', by omega, by go_num, rfl, by omega, by omega, ?_, HS6.out, by rw [HX1.out, HSP.out.2], HX2.out, H6.out⟩
                rw [HSP.out.1, List.map_append]
                unfold Own
                have h6 := HO6.out
                rw [List.length_map] at h6
                rw [cellsL_append, List.length_append, List.length_map, List.length_map]
                exact h6
              case measure => simp [intOf]; omega
    · obtain rfl : k = st.length := by omega
      obtain ⟨Y', hadv, hy1, hy2, -⟩ := adv_step HOK.out (s := last) hl0 hl1
      have HADV := Lib.hid hadv
      have HYL : Hid (Y'.l = X.l) := Lib.hid (by rw [hy1, HXL.out])
      have HYN : Hid (Y'.now = X.now) := Lib.hid (by rw [hy2, HXN.out])
      have HXS : Hid (X.l.length ≤ 1000000) := Lib.hid (by rw [HXL.out]; omega)
      have HDS : Hid (((due last W.l).map Tm.fd).length ≤ 1000000) := Lib.hid (by rw [List.length_map]; omega)
      clear hadv hy1 hy2 hlt
      go_wp2_with fail
      refine (d_advance HW.out.swap HADV.out).mono ?_
      rintro e w3 ⟨v3, rfl, ho3, h, K⟩
      obtain ⟨p3, c3, rfl⟩ := ho3.sl
      rw [List.length_map] at ho3 h ⊢
      have HO3 := Lib.hid ho3.rows
      have H3 := Lib.hid h.swap
      have HO' := Lib.hid (Own.rows (HO.out.kept K (fun b _ q s => s q)))
      clear ho3 h K
      go_wp2_with (first | (go_at_call 24; refine (d_list H5.out.swap).mono ?_; rintro e w6 ⟨v6, rfl, ho, h, K⟩; rw [HYL.out] at ho; obtain ⟨p6, c6, rfl⟩ := ho.sl; rw [List.length_map] at ho h; have HO6 := Lib.hid ho.rows; have HO5' := Lib.hid (HO5.out.same K); have H6 := Lib.hid h.swap; clear ho h K) | (go_at_call 24; refine (d_list H4.out).mono ?_; rintro e w5 ⟨v5, rfl, ho, h, K⟩; obtain ⟨p5, c5, rfl⟩ := ho.sl; rw [List.length_map] at ho h; have HO5 := Lib.hid ho.rows; have H5 := Lib.hid h; clear ho h K) | (go_at_call 19; refine (same_c HO5'.out HO6.out (by rw [List.length_map]; exact HXS.out)).mono ?_; rintro e w7 ⟨rfl, K⟩; have H7 := Lib.hid (H6.out.same K); clear K; simp only [decide_true]; have HWK7 := Lib.hid (works_c H7.out.tab); have HN7 := Lib.hid (d_now H7.out.swap); rw [HYN.out] at HN7) | (go_at_call 19; refine (same_c HO'.out HO3.out HDS.out).mono ?_; rintro e w4 ⟨rfl, K⟩; have H4 := Lib.hid (H3.out.same K); clear K; simp only [decide_true]) | (go_at_call 21; refine (d_now H7.out).mono ?_; rintro e w' ⟨rfl, hww⟩; obtain rfl := hww.symm) | (go_at_call 21; refine HN7.out.mono ?_; rintro e w' ⟨rfl, hww⟩; obtain rfl := hww.symm) | (go_at_call 13; refine HWK7.out.mono ?_; rintro e w8 ⟨rfl, K⟩; have HK8 := Lib.hid K; clear K))
      go_ret
      exact ⟨rfl, H7.out.kept0.trans HK8.out (fun _ _ h => h)⟩
end Go.Proofs.YtjlcchjcppkbjaaDoor

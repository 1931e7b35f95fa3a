/- WhNxW: texts for the statements of this seat: contracts of functions, walks, plain laws. Conditions: none. -/
import Derived.Test.YtjlcchjcppkbjaaDoorWhLaw0
import Derived.Test.YtjlcchjcppkbjaaDoorGeAll
set_option linter.all false
/- WheelNext. -/
namespace Go.Proofs.YtjlcchjcppkbjaaDoor
open Go.RowKit
variable {w w' : World} {F : Nat → Prop}
set_option maxRecDepth 100000 in
set_option maxHeartbeats 1000000 in
theorem wheelNext_w {v : Value} {l : List Sp} (hT : Tab w) (now : Int) (hl : Rows spC 4 w v l) (hm : l.length ≤ maxLen) (hwf : ∀ x ∈ l, x.wf) : Calls Tryd.prog 5 #[.int .i64 now, v] w fun e w' => e = .returned (.bool true) ∧ Kept (fun _ => False) w w' := by
  have HWK := Lib.hid (works_c hT)
  obtain ⟨p, c, rfl⟩ := hl.len
  by_cases g1 : l.length > 60
  · have d1 : decide ((60 : Int) < (l.length : Int)) = true := by simp; omega
    clear hT hl hwf
    go_enter Tryd.func5, Tryd.ntmps5
    go_wp2_with (go_at_call 13; refine HWK.out.mono ?_; rintro e w' ⟨rfl, K⟩; have HK := Lib.hid K; clear K)
    go_ret
    exact ⟨rfl, HK.out⟩
  have d1 : decide ((60 : Int) < (l.length : Int)) = false := by simp; omega
  by_cases g2 : now < 0
  · clear hT hl hwf
    go_enter Tryd.func5, Tryd.ntmps5
    go_wp2_with (go_at_call 13; refine HWK.out.mono ?_; rintro e w' ⟨rfl, K⟩; have HK := Lib.hid K; clear K)
    go_ret
    exact ⟨rfl, HK.out⟩
  by_cases g3 : now > 4611686018427387904
  · clear hT hl hwf
    go_enter Tryd.func5, Tryd.ntmps5
    go_wp2_with (go_at_call 13; refine HWK.out.mono ?_; rintro e w' ⟨rfl, K⟩; have HK := Lib.hid K; clear K)
    go_ret
    exact ⟨rfl, HK.out⟩
  have HFL := Lib.hid (filled_c (F := fun _ => False) (now := now) hT hl (by omega) hwf (by omega) (by omega) (fun _ h => h.elim))
  have HR := Lib.hid (run_new now l (k := 60) (by omega))
  clear hT hl hwf
  generalize (Wh.new 60 now).run l = W at HFL HR
  go_enter Tryd.func5, Tryd.ntmps5
  go_wp2_with (first | (go_at_call 23; refine HFL.out.mono ?_; rintro e w1 ⟨B, rfl, h⟩; have H1 := Lib.hid h; clear h) | (go_at_call 24; refine (l_list H1.out).mono ?_; rintro e w2 ⟨v2, rfl, ho, h, -⟩; have HO := Lib.hid ho.rows; have H2 := Lib.hid (h.mono (G := fun b => v2.ownBlock = some b) (fun b q => .inr q)); clear ho h))
  have HL60 : Hid (W.l.length ≤ 60) := Lib.hid HR.out.2
  go_loopw [6, 31] (fun s6 s31 wr => ∃ (k : Nat) (V : Wh), k + V.l.length ≤ 60 ∧ s31 = .int .i64 k ∧ Rows fdC 2 wr s6 (V.l.map Tm.fd) ∧ Wl w wr (fun b => s6.ownBlock = some b) B V) (fun _ s31 _ => 61 - (intOf s31).toNat)
  case atStart => exact ⟨0, W, by have := HL60.out; omega, rfl, HO.out, H2.out⟩
  case round =>
    obtain ⟨k, V, hk, rfl, hr, hW⟩ := hrel
    clear HL60 HO H2 HR HFL
    have HW := Lib.hid hW
    have hcase : V.l = [] ∨ ∃ x r, V.l = x :: r := by
      cases V.l with
      | nil => exact .inl rfl
      | cons x r => exact .inr ⟨x, r, rfl⟩
    have j1 : (0 : Int) ≤ (k : Int) := by omega
    have j2 : (k : Int) < 61 := by omega
    rcases hcase with hnil | ⟨x, r, hcons⟩
    · obtain ⟨a6, c6, rfl⟩ := hr.len
      have hz : (V.l.map Tm.fd).length = 0 := by rw [hnil]; rfl
      have HLN := Lib.hid (l_len HW.out)
      rw [hnil] at HLN
      rw [hz]
      have HNX := Lib.hid (l_next HW.out (wnext_nil hnil))
      have HWW := Lib.hid (works_c HW.out.tab)
      clear hr hW hz
      go_wp2_with (first | (go_at_call 25; refine HNX.out.mono ?_; rintro e w3 ⟨rfl, h, K⟩; have H3 := Lib.hid h; have HL3 := Lib.hid (l_len h); rw [hnil] at HL3; clear h K) | (go_at_call 16; refine HL3.out.mono ?_; rintro e w' ⟨rfl, hww⟩; obtain rfl := hww.symm) | (go_at_call 13; refine (works_c H3.out.tab).mono ?_; rintro e w4 ⟨rfl, K⟩; have HK4 := Lib.hid K; clear K))
      go_ret
      exact ⟨rfl, H3.out.kept0.trans HK4.out (fun _ _ h => h)⟩
    · obtain ⟨k1, k2, hnx, Va, Vb, ha, hb, hbl, hbn, hd0, hd1, hd2⟩ := next_pop HW.out.ok hcons
      obtain ⟨m1, m2⟩ := map_due x.at_ V.l
      have hdl := due_len x.at_ V.l
      have hN : NEVER = 4611686018427387904 := rfl
      have hvn := HW.out.ok.now
      obtain ⟨d, hdd⟩ : ∃ d, due x.at_ V.l = d := ⟨_, rfl⟩
      rw [hdd] at hb m1 m2 hdl hd0 hd1
      have HNX := Lib.hid (l_next HW.out hnx)
      have hlv : (V.l.map Tm.fd).length = V.l.length := List.length_map _
      obtain ⟨b6, o6, c6, rfl, hcap, -, -⟩ := hr.pos (by rw [hlv, hcons]; simp)
      rw [hlv] at hr HW HNX hW hcap ⊢
      have HRR := Lib.hid hr
      have HA := Lib.hid ha
      have HB := Lib.hid hb
      have HM1 := Lib.hid m1
      have HM2 := Lib.hid m2
      have HBL := Lib.hid hbl
      have HBN := Lib.hid hbn
      have HD1 := Lib.hid hd1
      have HD2 := Lib.hid hd2
      obtain ⟨n, hn⟩ : ∃ n, x.at_ = n := ⟨_, rfl⟩
      rw [hn] at k1 k2 HNX HA HB HM2 HBL HBN HD1 HD2 hdl
      clear hr hW hnx ha hb m1 m2 hbl hbn hd1 hd2 hlv hcons hdd hn
      have hnow2 : ¬ n ≤ V.now := by omega
      have j3 : 1 ≤ n := by omega
      have j4 : n ≤ 4611686018427387904 := by omega
      clear k1 k2 hN hvn
      have e1 : decide (n ≤ V.now) = false := decide_eq_false hnow2
      have dl : decide ((V.l.length : Int) < (d.length : Int)) = false := by simp only [decide_eq_false_iff_not]; omega
      have dz : ((d.length : Int) == 0) = false := by simp only [beq_eq_false_iff_ne, ne_eq]; omega
      go_wp2_with (first | (go_at_call 25; refine HNX.out.mono ?_; rintro e w3 ⟨rfl, h, K⟩; have H3 := Lib.hid h; have HR3 := Lib.hid (HRR.out.same K); clear h K) | (go_at_call 21; refine (l_now H3.out).mono ?_; rintro e w' ⟨rfl, hww⟩; obtain rfl := hww.symm))
      refine (l_advance H3.out HA.out).mono ?_
      rintro e w4 ⟨v4, rfl, ho, h, K⟩
      obtain ⟨p4, c4, rfl⟩ := ho.sl
      have H4 := Lib.hid h
      have HR4 := Lib.hid (HR3.out.kept K (fun b q _ s => s q))
      clear ho h K
      go_wp2_with fail
      refine (l_advance H4.out HB.out).mono ?_
      rintro e w5 ⟨v5, rfl, ho, h, K⟩
      obtain ⟨p5, c5, rfl⟩ := ho.sl
      rw [List.length_map] at ho h
      have HO5 := Lib.hid ho.rows
      have H5 := Lib.hid h
      have HR5 := Lib.hid (HR4.out.kept K (fun b q _ s => s (.inl q)))
      clear ho h K
      have q1 : (d.length : Int) ≤ (c6 : Int) := by omega
      have q2 : (0 : Int) ≤ (d.length : Int) := by omega
      go_wp2_with fail
      have HT5 : Hid (Rows fdC 2 w5 (.slice (some ⟨b6, o6, none⟩) d.length c6) (d.map Tm.fd)) := Lib.hid (by
        rw [← HM1.out]
        exact HR5.out.take (by rw [List.length_map]; omega))
      refine (same_c HO5.out HT5.out (by rw [List.length_map]; omega)).mono ?_
      rintro e w6 ⟨rfl, K⟩
      have H6 := Lib.hid (H5.out.same K)
      have HO6 := Lib.hid (HO5.out.same K)
      have HR6 := Lib.hid (HR5.out.same K)
      clear K
      simp only [decide_true]
      go_wp2_with fail
      go_loopw [13] (fun s13 wr => ∃ (j : Nat), j ≤ d.length ∧ s13 = .int .i64 j ∧ Kept (fun _ => False) w6 wr) (fun s13 _ => d.length - (intOf s13).toNat)
      case atStart => exact ⟨0, Nat.zero_le _, rfl, Kept.refl _ _⟩
      case round =>
        obtain ⟨j, hj, rfl, K⟩ := hrel
        have HK := Lib.hid K
        clear K
        by_cases hlt : j < d.length
        · obtain ⟨t, ht⟩ : ∃ t, d[j]? = some t := ⟨_, List.getElem?_eq_getElem hlt⟩
          have hta := HD1.out t (List.mem_of_getElem? ht)
          have ht' : (d.map Tm.fd)[j]? = some t.fd := by rw [List.getElem?_map, ht]; rfl
          obtain ⟨b, off, c', hv, a0, -, bl⟩ := fd_at HO6.out ht'
          injection hv with hv hvn hc
          clear hvn
          subst hv hc
          have f0 : wr.cell? ⟨b, off + j * 2, none⟩ = some (.int .i64 n) := (HK.out.cell (a := ⟨b, off + j * 2, none⟩) bl (fun h => h)).trans (by rw [← hta]; exact a0)
          have blr := Nat.lt_of_lt_of_le bl HK.out.size
          have i1 : (0 : Int) ≤ (j : Int) := by omega
          have i2 : (j : Int) < (d.length : Int) := by omega
          clear a0 ht ht' hta
          go_wp2_with fail
          go_roundw
          case rel => exact ⟨j + 1, by omega, by go_num, HK.out⟩
          case measure => simp [intOf]; omega
        · obtain rfl : j = d.length := by omega
          have H7 := Lib.hid (H6.out.same HK.out)
          have HR7 := Lib.hid (HR6.out.same HK.out)
          have HDR := Lib.hid (HR7.out.drop (k := d.length) (by rw [List.length_map]; omega))
          rw [HM2.out, ← HBL.out] at HDR
          have hrl : Vb.l.length = V.l.length - d.length := by rw [HBL.out]; omega
          have hrest : Vb.l = [] ∨ ∃ y s, Vb.l = y :: s := by
            cases Vb.l with
            | nil => exact .inl rfl
            | cons y s => exact .inr ⟨y, s, rfl⟩
          have hfd : (Vb.l.map Tm.fd).length = Vb.l.length := List.length_map _
          clear hlt hj HK H5 H6 HR6 HO6 HO5 HR5 HT5
          rcases hrest with hnil | ⟨y, s, hcs⟩
          · have hvl : V.l.length = d.length := by rw [hnil] at hrl; simp at hrl; omega
            rw [hvl] at H7 HR7 ⊢
            have H7' : Hid (Wl w wr (fun b => b6 = b) B Vb) := Lib.hid (H7.out.mono fun b q => .inl (.inl (by rw [← q]; rfl)))
            have HLEN : Hid ((Vb.l.map Tm.fd).length = 0) := Lib.hid (by rw [hnil]; rfl)
            have HS : Hid (∀ a c, Rows fdC 2 wr (.slice a 0 c) (Vb.l.map Tm.fd)) := Lib.hid fun a c => .inl ⟨a, c, rfl, by rw [hnil]; rfl⟩
            have hz : Vb.l.length = 0 := by rw [hnil]; rfl
            clear hnil hfd HDR HR7
            by_cases hc6 : c6 = d.length
            · subst hc6
              replace HS := Lib.hid (HS.out (some ⟨b6, o6, none⟩) 0)
              go_wp2_with fail
              refine (l_list H7'.out).mono ?_
              rintro e w8 ⟨v8, rfl, ho, h, K⟩
              obtain ⟨p8, c8, rfl⟩ := ho.sl
              have HO8 := Lib.hid ho.rows
              rw [HLEN.out] at HO8 ⊢
              have HS8 := Lib.hid (HS.out.same K)
              have H8 := Lib.hid (h.mono (G := fun b => b6 = b) (fun b q => .inl q))
              clear ho h K
              go_wp2_with fail
              refine (same_c HO8.out HS8.out (by rw [List.length_map]; omega)).mono ?_
              rintro e w9 ⟨rfl, K⟩
              have H9 := Lib.hid (H8.out.same K)
              have HS9 := Lib.hid (HS8.out.same K)
              clear K
              simp only [decide_true]
              go_wp2_with fail
              go_roundw
              case rel => exact ⟨k + 1, Vb, by omega, by go_num, HS9.out, H9.out.mono fun b q => by injection q⟩
              case measure => simp [intOf]; omega
            · have hc7 : ¬ (c6 = d.length) := hc6
              replace HS := Lib.hid (HS.out (some ⟨b6, o6 + d.length * 2, none⟩) (c6 - d.length))
              go_wp2_with fail
              refine (l_list H7'.out).mono ?_
              rintro e w8 ⟨v8, rfl, ho, h, K⟩
              obtain ⟨p8, c8, rfl⟩ := ho.sl
              have HO8 := Lib.hid ho.rows
              rw [HLEN.out] at HO8 ⊢
              have HS8 := Lib.hid (HS.out.same K)
              have H8 := Lib.hid (h.mono (G := fun b => b6 = b) (fun b q => .inl q))
              clear ho h K
              go_wp2_with fail
              refine (same_c HO8.out HS8.out (by rw [List.length_map]; omega)).mono ?_
              rintro e w9 ⟨rfl, K⟩
              have H9 := Lib.hid (H8.out.same K)
              have HS9 := Lib.hid (HS8.out.same K)
              clear K
              simp only [decide_true]
              go_wp2_with fail
              go_roundw
              case rel => exact ⟨k + 1, Vb, by omega, by go_num, HS9.out, H9.out.mono fun b q => by injection q⟩
              case measure => simp [intOf]; omega
          · have H7' : Hid (Wl w wr (fun b => b6 = b) B Vb) := Lib.hid (H7.out.mono fun b q => .inl (.inl (by rw [← q]; rfl)))
            have HLEN : Hid ((Vb.l.map Tm.fd).length = V.l.length - d.length) := Lib.hid (by rw [hfd, hrl])
            have hpos : Vb.l.length = s.length + 1 := by rw [hcs]; rfl
            have hyn : n < y.at_ := HD2.out y (by rw [← HBL.out, hcs]; simp)
            have y0 : (Vb.l.map Tm.fd)[0]? = some y.fd := by rw [hcs]; rfl
            obtain ⟨b, off, c', hv, a0, -, bl⟩ := fd_at HDR.out y0
            injection hv with hv hvn hc
            clear hvn
            injection hv with hv
            injection hv with hv1 hv2 _
            subst hv1 hv2 hc
            have f0 : wr.cell? ⟨b6, o6 + d.length * 2, none⟩ = some (.int .i64 y.at_) := by simpa [Tm.fd] using a0
            have hc7 : ¬ (c6 = d.length) := by omega
            have i1 : decide ((0 : Int) < ((V.l.length - d.length : Nat) : Int)) = true := by simp only [decide_eq_true_eq]; omega
            have i2 : (y.at_ == n) = false := by simp only [beq_eq_false_iff_ne, ne_eq]; omega
            have HS := HDR
            have hz := hpos
            clear a0 y0 hcs HDR HR7 hfd hyn
            go_wp2_with fail
            refine (l_list H7'.out).mono ?_
            rintro e w8 ⟨v8, rfl, ho, h, K⟩
            obtain ⟨p8, c8, rfl⟩ := ho.sl
            have HO8 := Lib.hid ho.rows
            rw [HLEN.out] at HO8 ⊢
            have HS8 := Lib.hid (HS.out.same K)
            have H8 := Lib.hid (h.mono (G := fun b => b6 = b) (fun b q => .inl q))
            clear ho h K
            go_wp2_with fail
            refine (same_c HO8.out HS8.out (by rw [List.length_map]; omega)).mono ?_
            rintro e w9 ⟨rfl, K⟩
            have H9 := Lib.hid (H8.out.same K)
            have HS9 := Lib.hid (HS8.out.same K)
            clear K
            simp only [decide_true]
            go_wp2_with fail
            go_roundw
            case rel => exact ⟨k + 1, Vb, by omega, by go_num, HS9.out, H9.out.mono fun b q => by injection q⟩
            case measure => simp [intOf]; omega
end Go.Proofs.YtjlcchjcppkbjaaDoor

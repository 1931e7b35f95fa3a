/- WhListW: texts for the statements of this seat: contracts of functions, walks, plain laws. Conditions: none. -/
import Derived.BigQuiet
import Derived.Test.YtjlcchjcppkbjaaDoorWhFill
set_option linter.all false
/- WheelList. -/
namespace Go.Proofs.YtjlcchjcppkbjaaDoor
open Go.RowKit
theorem due_all {t : Int} {l : List Tm} (h : ∀ x ∈ l, x.at_ ≤ t) : due t l = l ∧ rest t l = [] := by
  induction l with
  | nil => exact ⟨rfl, rfl⟩
  | cons y l ih =>
    obtain ⟨i1, i2⟩ := ih fun z hz => h z (by simp [hz])
    have hy : decide (y.at_ ≤ t) = true := by simpa using h y (by simp)
    unfold due rest at *
    rw [List.takeWhile_cons, List.dropWhile_cons, if_pos hy, if_pos hy, i1, i2]
    exact ⟨rfl, rfl⟩
theorem adv_all {W : Wh} (ok : WOk W) : ∃ W', W.advance 4611686018427387904 = (W', W.l, 0) ∧ W'.now = 4611686018427387904 ∧ W'.l = [] ∧ W'.seq = W.seq := by
  have hnow := ok.now
  have hN : NEVER = 4611686018427387904 := rfl
  rw [← hN]
  have h1 := @advance_ok W NEVER hnow.2 hnow.1 (Int.le_refl _)
  obtain ⟨e1, e2⟩ := due_all (t := NEVER) (l := W.l) fun x hx => (ok.at_ x hx).2
  rw [h1, e1, e2]
  exact ⟨_, rfl, rfl, rfl, rfl⟩
theorem add_late {W : Wh} (h : W.now = 4611686018427387904) (id : Int) : W.add 4611686018427387904 id = (W, 0, 8) := by
  have hN : NEVER = 4611686018427387904 := rfl
  unfold Wh.add
  rw [if_neg (by omega), if_pos (by omega)]
variable {w w' : World} {F : Nat → Prop}
/-- The handed script is short and its time is right, or works is asked. -/
theorem len_of_rows {v : Value} {l : List Sp} (h : Rows spC 4 w v l) : ∃ p c, v = .slice p l.length c := h.len
theorem run_new (now : Int) (l : List Sp) {k : Nat} (h : l.length ≤ k) : ((Wh.new 60 now).run l).seq ≤ k ∧ ((Wh.new 60 now).run l).l.length ≤ k := by
  have h1 := run_sl l (Wh.new 60 now)
  have h2 : (Wh.new 60 now).seq = 0 := rfl
  have h3 : (Wh.new 60 now).l = [] := rfl
  rw [h3, List.length_nil] at h1
  omega
set_option maxRecDepth 100000 in
set_option maxHeartbeats 1000000 in
theorem wheelList_w {v : Value} {l : List Sp} (hT : Tab w) (now : Int) (hl : Rows spC 4 w v l) (hm : l.length ≤ maxLen) (hwf : ∀ x ∈ l, x.wf) : Calls Tryd.prog 6 #[.int .i64 now, v] w fun e w' => e = .returned (.bool true) ∧ Kept (fun _ => False) w w' := by
  have HWK := Lib.hid (works_c hT)
  obtain ⟨p, c, rfl⟩ := hl.len
  by_cases g1 : l.length > 60
  · have d1 : decide ((60 : Int) < (l.length : Int)) = true := by simp; omega
    clear hT hl hwf
    go_enter Tryd.func6, Tryd.ntmps6
    go_wp2_with (go_at_call 13; refine HWK.out.mono ?_; rintro e w' ⟨rfl, K⟩; have HK := Lib.hid K; clear K)
    go_ret
    exact ⟨rfl, HK.out⟩
  have d1 : decide ((60 : Int) < (l.length : Int)) = false := by simp; omega
  by_cases g2 : now < 0
  · clear hT hl hwf
    go_enter Tryd.func6, Tryd.ntmps6
    go_wp2_with (go_at_call 13; refine HWK.out.mono ?_; rintro e w' ⟨rfl, K⟩; have HK := Lib.hid K; clear K)
    go_ret
    exact ⟨rfl, HK.out⟩
  by_cases g3 : now > 4611686018427387904
  · clear hT hl hwf
    go_enter Tryd.func6, Tryd.ntmps6
    go_wp2_with (go_at_call 13; refine HWK.out.mono ?_; rintro e w' ⟨rfl, K⟩; have HK := Lib.hid K; clear K)
    go_ret
    exact ⟨rfl, HK.out⟩
  have HFL := Lib.hid (filled_c (F := fun _ => False) (now := now) hT hl (by omega) hwf (by omega) (by omega) (fun _ h => h.elim))
  have HR := Lib.hid (run_new now l (k := 60) (by omega))
  clear hT hl hwf
  generalize (Wh.new 60 now).run l = W at HFL HR
  go_enter Tryd.func6, Tryd.ntmps6
  go_wp2_with (first | (go_at_call 23; refine HFL.out.mono ?_; rintro e w1 ⟨B, rfl, h⟩; have H1 := Lib.hid h; clear h) | (go_at_call 24; refine (l_list H1.out).mono ?_; rintro e w2 ⟨v2, rfl, ho, h, -⟩; obtain ⟨p2, c2, rfl⟩ := ho.sl; have HO := Lib.hid ho.rows; have HOB := Lib.hid ho; have H2 := Lib.hid h; clear ho h))
  have hll : (W.l.map Tm.fd).length = W.l.length := List.length_map _
  rw [hll] at HO HOB H2
  have hn60 : W.l.length ≤ 60 := by have := HR.out; omega
  clear hll
  go_loopw [7] (fun s7 wr => ∃ (k : Nat), k ≤ W.l.length ∧ s7 = .int .i64 k ∧ Kept (fun _ => False) w2 wr) (fun s7 _ => W.l.length - (intOf s7).toNat)
  case atStart => exact ⟨0, Nat.zero_le _, rfl, Kept.refl _ _⟩
  case round =>
    obtain ⟨k, hk, rfl, K⟩ := hrel
    have HK := Lib.hid K
    clear K
    have H3 := Lib.hid (H2.out.same HK.out)
    by_cases hlt : k < W.l.length
    · obtain ⟨t, ht⟩ : ∃ t, W.l[k]? = some t := ⟨_, List.getElem?_eq_getElem hlt⟩
      have hta := H2.out.ok.at_ t (List.mem_of_getElem? ht)
      have hN : NEVER = 4611686018427387904 := rfl
      have ht' : (W.l.map Tm.fd)[k]? = some t.fd := by rw [List.getElem?_map, ht]; rfl
      obtain ⟨b, off, c', hv, a0, -, bl⟩ := fd_at HO.out ht'
      injection hv with hv hvn hc
      clear hvn
      subst hv hc
      have f0 : wr.cell? ⟨b, off + k * 2, none⟩ = some (.int .i64 t.at_) := (HK.out.cell (a := ⟨b, off + k * 2, none⟩) bl (fun h => h)).trans a0
      have blr := Nat.lt_of_lt_of_le bl HK.out.size
      have j1 : (0 : Int) ≤ (k : Int) := by omega
      have j2 : (k : Int) < (W.l.length : Int) := by omega
      have e1 : decide (t.at_ ≤ W.now) = false := by simp; omega
      have e2 : decide (4611686018427387904 < t.at_) = false := by simp; omega
      have HNW : Hid (∀ m, Calls Tryd.prog 21 #[.pointer (some ⟨B, 0, none⟩)] (wr.drewN m) fun e w' => e = .returned (.int .i64 W.now) ∧ w' = wr.drewN m) := Lib.hid fun m => l_now (H3.out.same ((Kept.refl _ wr).drewN m))
      by_cases hk0 : k = 0
      · subst hk0
        have f2 : wr.cell? ⟨b, off, none⟩ = some (.int .i64 t.at_) := by simpa using f0
        clear a0 ht ht' hta f0
        go_wp2_with fail
        go_quiet ((go_at_call 21; exact Calls.quiet_of_same (HNW.out _)))
        go_wp2_with fail
        go_roundw
        case rel => exact ⟨1, by omega, by go_num, HK.out.drewN nq⟩
        case measure => simp [intOf]; omega
      · obtain ⟨j, rfl⟩ : ∃ j, k = j + 1 := ⟨k - 1, by omega⟩
        obtain ⟨u, hu⟩ : ∃ u, W.l[j]? = some u := ⟨_, List.getElem?_eq_getElem (by omega)⟩
        have hu' : (W.l.map Tm.fd)[j]? = some u.fd := by rw [List.getElem?_map, hu]; rfl
        obtain ⟨b', off', c', hv, a1, -, bl'⟩ := fd_at HO.out hu'
        injection hv with hv hvn hc
        clear hvn
        subst hc
        injection hv with hv
        injection hv with hv1 hv2 _
        subst hv1 hv2
        have f1 : wr.cell? ⟨b, off + j * 2, none⟩ = some (.int .i64 u.at_) := (HK.out.cell (a := ⟨b, off + j * 2, none⟩) bl (fun h => h)).trans a1
        have hord : ¬ t.at_ < u.at_ := by
          have h1 := H2.out.ok.sorted
          have h2 := List.pairwise_iff_getElem.1 h1 j (j + 1) (by omega) hlt (by omega)
          rw [List.getElem?_eq_getElem hlt] at ht
          rw [List.getElem?_eq_getElem (show j < W.l.length by omega)] at hu
          injection ht with ht
          injection hu with hu
          rw [ht, hu] at h2
          unfold Tm.lt at h2
          omega
        have e3 : decide (t.at_ < u.at_) = false := by simpa using hord
        have j3 : (0 : Int) ≤ (j : Int) := by omega
        have j4 : (j : Int) < (W.l.length : Int) := by omega
        have j5 : ((j + 1 : Nat) : Int) = (j : Int) + 1 := by omega
        rw [j5] at j1 j2 ⊢
        have j6 : decide ((0 : Int) < (j : Int) + 1) = true := by simp only [decide_eq_true_eq]; omega
        have j7 : (j : Int) + 1 - 1 = j := by omega
        have j8 : ((j : Int) + 1).toNat = j + 1 := by omega
        clear a0 a1 ht ht' hta hu hu' hord
        go_wp2_with fail
        go_quiet ((go_at_call 21; exact Calls.quiet_of_same (HNW.out _)))
        go_wp2_with fail
        go_roundw
        case rel => exact ⟨j + 1 + 1, by omega, by go_num, HK.out.drewN nq⟩
        case measure => simp [intOf]; omega
    · obtain rfl : k = W.l.length := by omega
      obtain ⟨W', hadv, n1, n2, n3⟩ := adv_all H3.out.ok
      have hadd := add_late n1 1
      have hs60 : W'.seq ≤ 1000000000 := by have := HR.out; omega
      have HS60 := Lib.hid hs60
      have HADD := Lib.hid hadd
      have HADV := Lib.hid (l_advance H3.out hadv)
      have HL3 := Lib.hid (l_len H3.out)
      have HAL := Lib.hid (HO.out.same HK.out)
      have hal : ∀ b, (Value.slice p2 W.l.length c2).ownBlock = some b → True := fun _ _ => trivial
      have HN2 : Hid (W'.l.length = 0) := Lib.hid (by rw [n2]; rfl)
      clear hadv hadd hs60 hal n2 n3 hlt
      go_wp2_with (first | (go_at_call 16; refine HL3.out.mono ?_; rintro e w' ⟨rfl, hww⟩; obtain rfl := hww.symm) | (go_at_call 17; refine HADV.out.mono ?_; rintro e w4 ⟨v4, rfl, ho, h4, K4⟩; obtain ⟨p4, c4, rfl⟩ := ho.sl; rw [List.length_map] at ho h4; have HO4 := Lib.hid ho; have H4 := Lib.hid h4; have HK4 := Lib.hid K4; clear ho h4 K4) | (go_at_call 15; refine (l_add H4.out HS60.out HADD.out).mono ?_; rintro e w5 ⟨rfl, h5, K5⟩; have H5 := Lib.hid h5; have HK5 := Lib.hid K5; clear h5 K5) | (go_at_call 19; refine (same_c (Own.rows (Own.kept HO4.out HK5.out (fun b _ q s => s (.inr q)))) ((HAL.out.kept HK4.out (fun b q _ s => s (.inr q))).kept HK5.out (fun b q _ s => s (.inl (.inr q)))) (by rw [List.length_map]; omega)).mono ?_; rintro e w6 ⟨rfl, K6⟩; have H6 := Lib.hid (H5.out.same K6); clear K6; simp only [decide_true]; have HL6 := Lib.hid (l_len H6.out); rw [HN2.out] at HL6; have HN6 := Lib.hid (l_now H6.out); have HWK6 := Lib.hid (works_c H6.out.tab)) | (go_at_call 16; refine HL6.out.mono ?_; rintro e w' ⟨rfl, hww⟩; obtain rfl := hww.symm) | (go_at_call 21; refine HN6.out.mono ?_; rintro e w' ⟨rfl, hww⟩; obtain rfl := hww.symm) | (go_at_call 13; refine HWK6.out.mono ?_; rintro e w7 ⟨rfl, K7⟩; have HK7 := Lib.hid K7; clear K7))
      go_ret
      exact ⟨rfl, H6.out.kept0.trans HK7.out (fun _ _ h => h)⟩
end Go.Proofs.YtjlcchjcppkbjaaDoor

/- WhPyYes: texts for the statements of this seat: contracts of functions, walks, plain laws. Conditions: none. -/
import Derived.Deep.CutBlock
import Derived.Deep.CutRange
import Derived.Deep.RegionHeld3
import Derived.Test.YtjlcchjcppkbjaaDoorWhDw
import Derived.Test.YtjlcchjcppkbjaaDoorWhDo
import Derived.Test.YtjlcchjcppkbjaaDoorWhFs
set_option linter.all false
/- WheelPlays. -/
namespace Go.Proofs.YtjlcchjcppkbjaaDoor
open Go.RowKit
variable {w w' : World}
theorem adv_le (W : Wh) (t : Int) : (W.advance t).2.1.length ≤ W.l.length := by
  unfold Wh.advance
  split
  · exact Nat.zero_le _
  split
  · exact Nat.zero_le _
  · exact (List.takeWhile_sublist _).length_le
theorem BoxS.facts {bx : Nat} {x : Sp} {V : World} (h : BoxS bx x V) : V.cell? ⟨bx, 0, none⟩ = some (.int .i64 x.d) ∧ V.cell? ⟨bx, 1, none⟩ = some (.int .i64 x.at_) ∧ V.cell? ⟨bx, 2, none⟩ = some (.int .i64 x.id) ∧ V.cell? ⟨bx, 3, none⟩ = some (.int .i64 x.h) ∧ bx < V.heap.size := ⟨h.c0, h.c1, h.c2, h.c3, h.lt⟩
theorem two_can {w0 w6 V : World} {B db bx : Nat} {X1 X : Wh} {x : Sp} {ec : Int} (h : Wd w0 w6 (fun b => b = bx) B db X1 X) (hb : BoxS bx x w6) (K : Kept (fun _ => False) w6 V) (ok : WOk X) (hll : X.l.length ≤ 5000) (hc : X.cancel x.h = (X1, ec)) :
    Calls Tryd.prog 29 #[.pointer (some ⟨db, 0, none⟩), .int .i64 x.h] V fun e w' => e = .returned (.int .i64 ec) ∧ Wd w0 w' (fun b => b = bx) B db X1 X1 ∧ BoxS bx x w' := by
  refine (q_cancel (h.same K) ok hll hc).mono ?_
  rintro e w' ⟨rfl, h2, K'⟩
  exact ⟨rfl, h2, (hb.kept K (fun h => h)).kept K' (fun s => s rfl)⟩
set_option maxRecDepth 100000 in
set_option maxHeartbeats 2000000 in
theorem plays_yes {v : Value} {l : List Sp} (hT : Tab w) (n : Nat) (now : Int) (hn : n ≤ 4096) (h0 : 0 ≤ now) (h1 : now ≤ 4611686018427387904) (hl : Rows spC 4 w v l) (hm : l.length ≤ 80) (hwf : ∀ x ∈ l, x.wf) :
    Calls Tryd.prog 10 #[.int .i64 n, .int .i64 now, v] w fun e w' => e = .returned (.bool true) ∧ Kept (fun _ => False) w w' := by
  have HWK : Hid (∀ V, Kept (fun _ => False) w V → Calls Tryd.prog 13 #[] V fun e w' => e = .returned (.bool true) ∧ Kept (fun _ => False) V w') := Lib.hid fun V K => works_c (hT.kept K (fun h => h))
  obtain ⟨p, c, rfl⟩ := hl.len
  have d1 : decide ((80 : Int) < (l.length : Int)) = false := by simp; omega
  have HNW := Lib.hid (l_new (F := fun _ => False) (n := (n : Int)) (now := now) hT (Kept.refl _ _) (fun _ h => h.elim) (by omega) (by omega) h0 h1)
  have HDN : Hid (∀ V, Calls Tryd.prog 27 #[.int .i64 n, .int .i64 now] V fun e w' => ∃ db rb v1 v2 v3 v4, e = .returned (.tuple #[.pointer (some ⟨db, 0, none⟩), .int .i64 0]) ∧ DW w' V.heap.size db (.slice none 0 0) rb v1 v2 v3 v4 (Wh.new ((n : Int).toNat) now) ∧ Kept (fun _ => False) V w') := Lib.hid fun V => by rw [Int.toNat_natCast]; exact dnew_c n now V hn h0 h1
  have HLM := Lib.hid hl
  have HWF := Lib.hid hwf
  have HM := Lib.hid hm
  clear hT hl hwf hm h0 h1 hn
  go_enter Tryd.func10, Tryd.ntmps10
  go_wp2_with fail
  refine HNW.out.mono ?_
  rintro e w1 ⟨B0, rfl, hw1, -⟩
  have H1 := Lib.hid hw1
  clear hw1
  go_wp2_with fail
  refine (HDN.out _).mono ?_
  rintro e w2 ⟨db0, rb0, v1, v2, v3, v4, rfl, hd2, K2⟩
  have H2 := Lib.hid (Wd.start H1.out hd2 K2)
  have HSL : Hid ((Wh.new ((n : Int).toNat) now).seq ≤ (0 : Nat) ∧ (Wh.new ((n : Int).toNat) now).l.length ≤ 0) := Lib.hid ⟨by simp [Wh.new], by simp [Wh.new]⟩
  clear H1 hd2 K2 HNW HDN
  generalize Wh.new ((n : Int).toNat) now = W0 at H2 HSL
  go_wp2_with fail
  go_loopw [7, 9, 11] (fun s7 s9 s11 wr => ∃ (k B db : Nat) (X : Wh), k ≤ l.length ∧ s7 = .pointer (some ⟨B, 0, none⟩) ∧ s9 = .pointer (some ⟨db, 0, none⟩) ∧ s11 = .int .i64 k ∧ X.seq ≤ k ∧ X.l.length ≤ k ∧ Wd w wr (fun _ => False) B db X X) (fun _ _ s11 _ => l.length - (intOf s11).toNat)
  case atStart => exact ⟨0, B0, db0, W0, Nat.zero_le _, rfl, rfl, rfl, HSL.out.1, HSL.out.2, H2.out⟩
  case round =>
    obtain ⟨k, B, db, X, hk, rfl, rfl, rfl, hs, hln, hW⟩ := hrel
    have HW := Lib.hid hW
    have HS := Lib.hid (And.intro hs hln)
    have HKM := Lib.hid (Nat.le_trans hk HM.out)
    clear hW hs hln H2
    by_cases hlt : k < l.length
    · obtain ⟨x, hx⟩ : ∃ x, l[k]? = some x := ⟨_, List.getElem?_eq_getElem hlt⟩
      obtain ⟨b, off, c', hv, ⟨a0, a1, a2, a3⟩, bl⟩ := sp_at HLM.out hx
      injection hv with hv hvn hc
      clear hvn
      subst hv hc
      have K := HW.out.kept0
      have f0 := (K.cell (a := ⟨b, off + k * 4, none⟩) bl (fun h => h)).trans a0
      have f1 := (K.cell (a := ⟨b, off + k * 4 + 1, none⟩) bl (fun h => h)).trans a1
      have f2 := (K.cell (a := ⟨b, off + k * 4 + 2, none⟩) bl (fun h => h)).trans a2
      have f3 := (K.cell (a := ⟨b, off + k * 4 + 3, none⟩) bl (fun h => h)).trans a3
      have blr := Nat.lt_of_lt_of_le bl K.size
      have j1 : (0 : Int) ≤ (k : Int) := by omega
      have j2 : (k : Int) < (l.length : Int) := by omega
      have HWX := Lib.hid (HWF.out x (List.mem_of_getElem? hx))
      clear a0 a1 a2 a3 K hx
      have HX1 : Hid (X.seq ≤ 1000000000 ∧ X.l.length ≤ 5000) := Lib.hid (by have := HS.out; have := HKM.out; omega)
      have HOK := Lib.hid HW.out.ok
      go_upto_block 2 with fail
      obtain ⟨bx, hbx⟩ : ∃ bx, wr.heap.size = bx := ⟨_, rfl⟩
      obtain ⟨wA, hwA⟩ : ∃ wA, wr.alloc (.cells #[.int .i64 x.d, .int .i64 x.at_, .int .i64 x.id, .int .i64 x.h] 45) = wA := ⟨_, rfl⟩
      have HB0 : Hid (BoxS bx x wA) := Lib.hid (by rw [← hwA, ← hbx]; exact BoxS.new _ _ _)
      have H0 : Hid (Wd w wA (fun b => b = bx) B db X X) := Lib.hid (HW.out.fresh (by rw [← hwA]; exact (Kept.refl _ wr).alloc _) (fun b q => by subst q; rw [← hwA, ← hbx]; exact ⟨by simp, .inr (Nat.le_refl _)⟩))
      rw [hwA, hbx]
      clear hwA hbx f0 f1 f2 f3 blr HW
      go_cut [7, 9] from 51 to 179 (fun s7 s9 wz => ∃ (B2 db2 : Nat) (X2 : Wh), s7 = .pointer (some ⟨B2, 0, none⟩) ∧ s9 = .pointer (some ⟨db2, 0, none⟩) ∧ X2.seq ≤ (k + 1 : Nat) ∧ X2.l.length ≤ k + 1 ∧ Wd w wz (fun _ => False) B2 db2 X2 X2)
      case first =>
        have f0 := HB0.out.c0
        have f1 := HB0.out.c1
        have f2 := HB0.out.c2
        have f3 := HB0.out.c3
        have f5 := HB0.out.lt
        by_cases e0 : x.d = 0
        · have q0 : (x.d == 0) = true := by simpa using e0
          clear e0
          obtain ⟨X1, hd, er, hadd⟩ : ∃ X1 hd er, X.add x.at_ x.id = (X1, hd, er) := ⟨_, _, _, rfl⟩
          have HADD := Lib.hid hadd
          have HS2 : Hid (X1.seq ≤ (k + 1 : Nat) ∧ X1.l.length ≤ k + 1) := Lib.hid (by
            have q1 := add_sl X x.at_ x.id
            have := HS.out
            rw [hadd] at q1
            simp only at q1
            omega)
          clear hadd
          go_wp2_with fail
          refine (p_add H0.out HX1.out.1 HADD.out).mono ?_
          rintro e w4 ⟨rfl, h, K⟩
          have H4 := Lib.hid h
          have HB4 := Lib.hid (HB0.out.kept K (fun s => s rfl))
          clear h K H0 HB0 f0 f1 f2 f3 f5
          have f1 := HB4.out.c1
          have f2 := HB4.out.c2
          have f5 := HB4.out.lt
          go_wp2_with fail
          refine (q_add H4.out HOK.out HX1.out.1 HX1.out.2 HADD.out).mono ?_
          rintro e w5 ⟨rfl, h, -⟩
          have H5 : Hid (Wd w w5 (fun _ => False) B db X1 X1) := Lib.hid (h.mono fun b q => q.elim)
          clear h H4 HB4 f1 f2 f5
          go_wp2_with fail
          go_meet
          exact ⟨B, db, X1, rfl, rfl, HS2.out.1, HS2.out.2, H5.out⟩
        have q0 : (x.d == 0) = false := by simpa using e0
        clear e0
        by_cases e1 : x.d = 1
        · have q1 : (x.d == 1) = true := by simpa using e1
          clear e1
          obtain ⟨X1, ec, hcan⟩ : ∃ X1 ec, X.cancel x.h = (X1, ec) := ⟨_, _, rfl⟩
          have HCAN := Lib.hid hcan
          have HS2 : Hid (X1.seq ≤ (k + 1 : Nat) ∧ X1.l.length ≤ k + 1) := Lib.hid (by
            have q1 := cancel_sl X x.h
            have := HS.out
            rw [hcan] at q1
            simp only at q1
            omega)
          clear hcan
          have HC1 : Hid (∀ V, Kept (fun _ => False) wA V → Calls Tryd.prog 20 #[.pointer (some ⟨B, 0, none⟩), .int .i64 x.h] V fun e w' => e = .returned (.int .i64 ec) ∧ Wd w w' (fun b => b = bx) B db X1 X ∧ BoxS bx x w') := Lib.hid fun V K => by
            refine (p_cancel (H0.out.same K) HWX.out.2.2.2.1 HWX.out.2.2.2.2 HCAN.out).mono ?_
            rintro e w' ⟨rfl, h, K'⟩
            exact ⟨rfl, h, (HB0.out.kept K (fun h => h)).kept K' (fun s => s rfl)⟩
          have HX5 : Hid (∀ V, Kept (fun _ => False) wA V → V.cell? ⟨bx, 3, none⟩ = some (.int .i64 x.h) ∧ bx < V.heap.size) := Lib.hid fun V K => ⟨(HB0.out.kept K (fun h => h)).c3, (HB0.out.kept K (fun h => h)).lt⟩
          go_wp2_with fail
          clear f0 f1 f2 f3 f5
          go_region_held3 (fun V => V.cell? ⟨bx, 3, none⟩ = some (.int .i64 x.h) ∧ bx < V.heap.size) (first | exact HX7.out _ (by repeat (first | exact Kept.refl _ _ | refine Kept.drew ?_)) | exact HX6.out _ (by repeat (first | exact Kept.refl _ _ | refine Kept.drew ?_)) | exact HX5.out _ (by repeat (first | exact Kept.refl _ _ | refine Kept.drew ?_))) (first | (go_at_call 29; refine (HC2.out _ (by repeat (first | exact Kept.refl _ _ | refine Kept.drew ?_))).mono ?_; rintro e w7 ⟨rfl, h, hb⟩; have H7 := Lib.hid h; have HX7 : Hid (∀ V, Kept (fun _ => False) w7 V → V.cell? ⟨bx, 3, none⟩ = some (.int .i64 x.h) ∧ bx < V.heap.size) := Lib.hid (fun V K => ⟨(hb.kept K (fun h => h)).c3, (hb.kept K (fun h => h)).lt⟩); clear h hb) | (go_at_call 20; refine (HC1.out _ (by repeat (first | exact Kept.refl _ _ | refine Kept.drew ?_))).mono ?_; rintro e w6 ⟨rfl, h, hb⟩; have HC2 : Hid (∀ V, Kept (fun _ => False) w6 V → Calls Tryd.prog 29 #[.pointer (some ⟨db, 0, none⟩), .int .i64 x.h] V fun e w' => e = .returned (.int .i64 ec) ∧ Wd w w' (fun b => b = bx) B db X1 X1 ∧ BoxS bx x w') := Lib.hid (fun V K => two_can h hb K HOK.out HX1.out.2 HCAN.out); have HX6 : Hid (∀ V, Kept (fun _ => False) w6 V → V.cell? ⟨bx, 3, none⟩ = some (.int .i64 x.h) ∧ bx < V.heap.size) := Lib.hid (fun V K => ⟨(hb.kept K (fun h => h)).c3, (hb.kept K (fun h => h)).lt⟩); clear h hb))
          all_goals
            have H8 : Hid (Wd w w7 (fun _ => False) B db X1 X1) := Lib.hid (H7.out.mono fun b q => q.elim)
            clear HC1 HC2 HX5 HX6 HX7 H7 HB0 H0
            go_wp2_with fail
            go_meet
            exact ⟨B, db, X1, rfl, rfl, HS2.out.1, HS2.out.2, H8.out.same (by repeat (first | exact Kept.refl _ _ | refine Kept.drew ?_))⟩
        have q1 : (x.d == 1) = false := by simpa using e1
        clear e1
        by_cases e2 : x.d = 2
        · have q2 : (x.d == 2) = true := by simpa using e2
          clear e2
          obtain ⟨X1, l3, ea, hadv⟩ : ∃ X1 l3 ea, X.advance x.at_ = (X1, l3, ea) := ⟨_, _, _, rfl⟩
          have HADV := Lib.hid hadv
          have HS2 : Hid (X1.seq ≤ (k + 1 : Nat) ∧ X1.l.length ≤ k + 1 ∧ (l3.map Tm.fd).length ≤ 1000000) := Lib.hid (by
            have q1 := advance_sl X x.at_
            have q4 := adv_le X x.at_
            have := HS.out
            have := HKM.out
            rw [hadv] at q1 q4
            simp only at q1 q4
            rw [List.length_map]
            omega)
          clear hadv
          go_wp2_with fail
          refine (p_advance H0.out HADV.out).mono ?_
          rintro e w4 ⟨v4', rfl, ho, h, K⟩
          obtain ⟨p4, c4, rfl⟩ := ho.sl
          rw [List.length_map] at ho h ⊢
          have HO4 := Lib.hid ho
          have H4 := Lib.hid h
          have HB4 := Lib.hid (HB0.out.kept K (fun s => s rfl))
          clear ho h K H0 HB0 f0 f1 f2 f3 f5
          have f1 := HB4.out.c1
          have f5 := HB4.out.lt
          go_wp2_with fail
          refine (q_advance H4.out HOK.out HX1.out.2 HADV.out).mono ?_
          rintro e w5 ⟨v5', rfl, ho, h, K⟩
          obtain ⟨p5, c5, rfl⟩ := ho.sl
          rw [List.length_map] at ho ⊢
          have HO5 := Lib.hid ho.rows
          have HO4' := Lib.hid (Own.rows (HO4.out.kept K (fun b _ q s => s (.inr q))))
          have H5 : Hid (Wd w w5 (fun _ => False) B db X1 X1) := Lib.hid (h.mono fun b q => q.elim)
          clear ho h K H4 HB4 HO4 f1 f5
          go_wp2_with (go_at_call 31; refine (alike_t HO4'.out HO5.out HS2.out.2.2).mono ?_; rintro e w6 ⟨rfl, K⟩; have H6 := Lib.hid (H5.out.same K); clear K)
          go_meet
          exact ⟨B, db, X1, rfl, rfl, HS2.out.1, HS2.out.2.1, H6.out⟩
        have q2 : (x.d == 2) = false := by simpa using e2
        clear e2
        by_cases e3 : x.d = 3
        · have q3 : (x.d == 3) = true := by simpa using e3
          clear e3
          go_wp2_with fail
          refine (p_copy H0.out).mono ?_
          rintro e w4 ⟨B2, rfl, h, K⟩
          have H4 := Lib.hid h
          clear h K H0 HB0 f0 f1 f2 f3 f5
          go_wp2_with fail
          refine (q_copy H4.out HOK.out HX1.out.2).mono ?_
          rintro e w5 ⟨db2, rfl, h, K⟩
          have H5 : Hid (Wd w w5 (fun _ => False) B2 db2 X X) := Lib.hid (h.mono fun b q => q.elim)
          clear h K H4
          go_wp2_with fail
          go_meet
          exact ⟨B2, db2, X, rfl, rfl, by have := HS.out; omega, by have := HS.out; omega, H5.out⟩
        have q3 : (x.d == 3) = false := by simpa using e3
        clear e3
        go_wp2_with fail
        go_meet
        exact ⟨B, db, X, rfl, rfl, by have := HS.out; omega, by have := HS.out; omega, H0.out.mono fun b q => q.elim⟩
      case rest =>
        obtain ⟨B2, db2, X2, rfl, rfl, hs2, hl2, hw2⟩ := hcut
        have H5 := Lib.hid hw2
        have HS2 := Lib.hid (And.intro hs2 hl2)
        have HX2 : Hid (X2.l.length ≤ 5000 ∧ (X2.l.map Tm.fd).length ≤ 1000000) := Lib.hid (by rw [List.length_map]; have := HS2.out; have := HKM.out; omega)
        have HOK2 := Lib.hid hw2.ok
        obtain ⟨n1, b1, hnx⟩ : ∃ n1 b1, X2.next = (n1, b1) := ⟨_, _, rfl⟩
        have HNX := Lib.hid hnx
        have hm80 := HKM.out
        clear hs2 hl2 hw2 hnx H0 HB0 HX1 HOK HS
        go_wp2_with fail
        refine (p_next H5.out HNX.out).mono ?_
        rintro e w6 ⟨rfl, K⟩
        have H6 := Lib.hid (H5.out.same K)
        clear K H5
        go_wp2_with fail
        refine (q_next H6.out HNX.out).mono ?_
        rintro e w' ⟨rfl, hww⟩
        obtain rfl := hww.symm
        go_wp2_with fail
        refine (p_now H6.out).mono ?_
        rintro e w' ⟨rfl, hww⟩
        obtain rfl := hww.symm
        go_wp2_with fail
        refine (q_now H6.out).mono ?_
        rintro e w' ⟨rfl, hww⟩
        obtain rfl := hww.symm
        go_wp2_with fail
        refine (p_len H6.out).mono ?_
        rintro e w' ⟨rfl, hww⟩
        obtain rfl := hww.symm
        go_wp2_with fail
        refine (q_len H6.out).mono ?_
        rintro e w' ⟨rfl, hww⟩
        obtain rfl := hww.symm
        go_wp2_with fail
        refine (p_room H6.out).mono ?_
        rintro e w7 ⟨rfl, K⟩
        have H7 := Lib.hid (H6.out.same K)
        clear K H6
        go_wp2_with fail
        refine (q_room H7.out HOK2.out).mono ?_
        rintro e w8 ⟨rfl, K⟩
        have H8 := Lib.hid (H7.out.same K)
        clear K H7
        go_wp2_with fail
        refine (p_list H8.out).mono ?_
        rintro e w9 ⟨v9, rfl, ho, K⟩
        obtain ⟨p9, c9, rfl⟩ := ho.sl
        rw [List.length_map] at ho ⊢
        have HO9 := Lib.hid ho.rows
        have H9 := Lib.hid (H8.out.same K)
        clear ho K H8
        go_wp2_with fail
        refine (q_list H9.out HX2.out.1).mono ?_
        rintro e w10 ⟨v10, rfl, ho, K⟩
        obtain ⟨p10, c10, rfl⟩ := ho.sl
        rw [List.length_map] at ho ⊢
        have HO10 := Lib.hid ho.rows
        have HO9' := Lib.hid (HO9.out.same K)
        have H10 := Lib.hid (H9.out.same K)
        clear ho K H9 HO9
        go_wp2_with (go_at_call 31; refine (alike_t HO9'.out HO10.out HX2.out.2).mono ?_; rintro e w11 ⟨rfl, K⟩; have H11 := Lib.hid (H10.out.same K); clear K)
        go_roundw
        case rel => exact ⟨k + 1, B2, db2, X2, by omega, rfl, rfl, by go_num, HS2.out.1, HS2.out.2, H11.out⟩
        case measure => simp [intOf]; omega
    · obtain rfl : k = l.length := by omega
      have HK := Lib.hid HW.out.kept0
      clear HW
      go_wp2_with (go_at_call 13; refine (HWK.out _ HK.out).mono ?_; rintro e w4 ⟨rfl, K⟩; have HK4 := Lib.hid (HK.out.trans K (fun _ _ h => h)); clear K)
      go_ret
      exact ⟨rfl, HK4.out⟩

end Go.Proofs.YtjlcchjcppkbjaaDoor

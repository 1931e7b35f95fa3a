/- WhCpW: texts for the statements of this seat: contracts of functions, walks, plain laws. Conditions: none. -/
import Derived.Deep.RegionHeld3
import Derived.Test.YtjlcchjcppkbjaaDoorWhTri
import Derived.Test.YtjlcchjcppkbjaaDoorWhLaw0
set_option linter.all false
/- WheelCopies. -/
namespace Go.Proofs.YtjlcchjcppkbjaaDoor
open Go.RowKit
variable {w w' : World} {F : Nat → Prop}
/-- One step of the second script, at each copy. -/
def Wh.step2 (W : Wh) (s : Sp) : Wh := if s.d = 2 then (((W.add s.at_ s.id).1.cancel s.h).1.advance s.at_).1 else ((W.add s.at_ s.id).1.cancel s.h).1
/-- A box that holds a step. -/
structure Box4 (b : Nat) (x : Sp) (W : World) : Prop where
  c0 : W.cell? ⟨b, 0, none⟩ = some (.int .i64 x.d)
  c1 : W.cell? ⟨b, 1, none⟩ = some (.int .i64 x.at_)
  c2 : W.cell? ⟨b, 2, none⟩ = some (.int .i64 x.id)
  c3 : W.cell? ⟨b, 3, none⟩ = some (.int .i64 x.h)
  lt : b < W.heap.size
theorem Box4.kept {S : Nat → Prop} {b : Nat} {x : Sp} {W V : World} (h : Box4 b x W) (K : Kept S W V) (hS : ¬ S b) : Box4 b x V :=
  ⟨(K.cell (a := ⟨b, 0, none⟩) h.lt hS).trans h.c0, (K.cell (a := ⟨b, 1, none⟩) h.lt hS).trans h.c1, (K.cell (a := ⟨b, 2, none⟩) h.lt hS).trans h.c2, (K.cell (a := ⟨b, 3, none⟩) h.lt hS).trans h.c3, Nat.lt_of_lt_of_le h.lt K.size⟩
theorem Box4.new (W : World) (x : Sp) (t : Nat) : Box4 W.heap.size x (W.alloc (.cells #[.int .i64 x.d, .int .i64 x.at_, .int .i64 x.id, .int .i64 x.h] t)) :=
  ⟨World.cell?_alloc_at _ _ _ _ rfl, World.cell?_alloc_at _ _ _ _ rfl, World.cell?_alloc_at _ _ _ _ rfl, World.cell?_alloc_at _ _ _ _ rfl, by simp⟩
theorem two_cancel {w0 w6 V : World} {B B1 B2 bx : Nat} {W X1 X2 : Wh} {x : Sp} {ec : Int} (h : Wl3 w0 w6 (fun b => b = bx) B B1 B2 W X2 X1) (hb : Box4 bx x w6) (K : Kept (fun _ => False) w6 V) (hx : -9223372036854775808 ≤ x.h ∧ x.h ≤ 9223372036854775807) (hc : X1.cancel x.h = (X2, ec)) :
    Calls Tryd.prog 20 #[.pointer (some ⟨B2, 0, none⟩), .int .i64 x.h] V fun e w' => e = .returned (.int .i64 ec) ∧ Wl3 w0 w' (fun b => b = bx) B B1 B2 W X2 X2 ∧ Box4 bx x w' := by
  refine (t_cancel (h.same K).swap hx.1 hx.2 hc).mono ?_
  rintro e w' ⟨rfl, h2, K'⟩
  exact ⟨rfl, h2.swap, (hb.kept K (fun h => h)).kept K' (fun s => s rfl)⟩
theorem adv_out_le (W : Wh) (t : Int) : (W.advance t).2.1.length ≤ W.l.length := by
  unfold Wh.advance
  split
  · exact Nat.zero_le _
  split
  · exact Nat.zero_le _
  · exact (List.takeWhile_sublist _).length_le
set_option maxRecDepth 100000 in
set_option maxHeartbeats 1000000 in
theorem wheelCopies_w {v u : Value} {l m : List Sp} (hT : Tab w) (now : Int) (hl : Rows spC 4 w v l) (hm : l.length ≤ maxLen) (hwf : ∀ x ∈ l, x.wf) (hl2 : Rows spC 4 w u m) (hm2 : m.length ≤ maxLen) (hwf2 : ∀ x ∈ m, x.wf) : Calls Tryd.prog 9 #[.int .i64 now, v, u] w fun e w' => e = .returned (.bool true) ∧ Kept (fun _ => False) w w' := by
  have HWK := Lib.hid (works_c hT)
  obtain ⟨p, c, rfl⟩ := hl.len
  obtain ⟨p2, c2, rfl⟩ := hl2.len
  by_cases g1 : l.length > 40
  · have d1 : decide ((40 : Int) < (l.length : Int)) = true := by simp; omega
    clear hT hl hwf hl2 hwf2
    go_enter Tryd.func9, Tryd.ntmps9
    go_wp2_with (go_at_call 13; refine HWK.out.mono ?_; rintro e w' ⟨rfl, K⟩; have HK := Lib.hid K; clear K)
    go_ret
    exact ⟨rfl, HK.out⟩
  have d1 : decide ((40 : Int) < (l.length : Int)) = false := by simp; omega
  by_cases g4 : m.length > 40
  · have d4 : decide ((40 : Int) < (m.length : Int)) = true := by simp; omega
    clear hT hl hwf hl2 hwf2
    go_enter Tryd.func9, Tryd.ntmps9
    go_wp2_with (go_at_call 13; refine HWK.out.mono ?_; rintro e w' ⟨rfl, K⟩; have HK := Lib.hid K; clear K)
    go_ret
    exact ⟨rfl, HK.out⟩
  have d4 : decide ((40 : Int) < (m.length : Int)) = false := by simp; omega
  by_cases g2 : now < 0
  · clear hT hl hwf hl2 hwf2
    go_enter Tryd.func9, Tryd.ntmps9
    go_wp2_with (go_at_call 13; refine HWK.out.mono ?_; rintro e w' ⟨rfl, K⟩; have HK := Lib.hid K; clear K)
    go_ret
    exact ⟨rfl, HK.out⟩
  by_cases g3 : now > 4611686018427387904
  · clear hT hl hwf hl2 hwf2
    go_enter Tryd.func9, Tryd.ntmps9
    go_wp2_with (go_at_call 13; refine HWK.out.mono ?_; rintro e w' ⟨rfl, K⟩; have HK := Lib.hid K; clear K)
    go_ret
    exact ⟨rfl, HK.out⟩
  have HFL : Hid (∀ W, Kept (fun _ => False) w W → Calls Tryd.prog 23 #[.int .i64 now, .slice p l.length c] W fun e w' => ∃ B, e = .returned (.pointer (some ⟨B, 0, none⟩)) ∧ Wl W w' (fun _ => False) B ((Wh.new 60 now).run l)) := Lib.hid fun W K => filled_c (F := fun _ => False) (now := now) (hT.kept K (fun h => h)) (hl.same K) (by omega) hwf (by omega) (by omega) (fun _ h => h.elim)
  have HR := Lib.hid (run_new now l (k := 40) (by omega))
  have HLM := Lib.hid hl2
  have HWF := Lib.hid hwf2
  clear hT hl hwf hl2 hwf2
  generalize (Wh.new 60 now).run l = W at HFL HR
  have HWN : Hid (W.l.length ≤ 1000000) := Lib.hid (by have := HR.out; omega)
  go_enter Tryd.func9, Tryd.ntmps9
  go_wp2_with (go_at_call 23; refine (HFL.out _ (Kept.refl _ _)).mono ?_; rintro e w1 ⟨B, rfl, h⟩; have H1 := Lib.hid h; clear h)
  refine (l_copy H1.out).mono ?_
  rintro e w2 ⟨B1, rfl, ⟨k1, I1, h⟩, K2⟩
  have HI1 := Lib.hid I1
  have H2 := Lib.hid h
  have HK2 := Lib.hid K2
  clear I1 h K2
  go_wp2_with fail
  refine (l_copy H2.out).mono ?_
  rintro e w3 ⟨B2, rfl, ⟨k2, I2, h⟩, K3⟩
  have H3 : Hid (Wl3 w w3 (fun _ => False) B B1 B2 W W W) := Lib.hid (Wl3.of_copies HI1.out I2 (h.mono fun b q => by rcases q with q | q; exact .inl (.inr q); exact .inr q) H1.out.kept0.size K3 HK2.out.size)
  clear HI1 H2 HK2 I2 h K3 H1
  go_wp2_with (first | (go_at_call 24; refine (l_list H4.out.zero).mono ?_; rintro e w5 ⟨v5, rfl, ho, -, K⟩; obtain ⟨p5, c5, rfl⟩ := ho.sl; rw [List.length_map] at ho ⊢; have HO5 := Lib.hid ho.rows; have HO4' := Lib.hid (HO4.out.same K); have H5 := Lib.hid (H4.out.same K); clear ho K) | (go_at_call 24; refine (t_list H3.out).mono ?_; rintro e w4 ⟨v4, rfl, ho, K⟩; obtain ⟨p4, c4, rfl⟩ := ho.sl; rw [List.length_map] at ho ⊢; have HO4 := Lib.hid ho.rows; have H4 := Lib.hid (H3.out.same K); clear ho K) | (go_at_call 19; refine (same_t HO4'.out HO5.out (by rw [List.length_map]; exact HWN.out)).mono ?_; rintro e w6 ⟨rfl, K⟩; have H6 := Lib.hid (H5.out.same K); clear K) | (go_at_call 21; refine HNB.out.mono ?_; rintro e w' ⟨rfl, hww⟩; obtain rfl := hww.symm) | (go_at_call 21; refine (t_now H6.out).mono ?_; rintro e w' ⟨rfl, hww⟩; obtain rfl := hww.symm; have HNB := Lib.hid (l_now H6.out.zero)))
  go_loopw [10] (fun s10 wr => ∃ (k : Nat) (X : Wh), k ≤ m.length ∧ s10 = .int .i64 k ∧ X.seq ≤ 40 + k ∧ X.l.length ≤ 40 + k ∧ Wl3 w wr (fun _ => False) B B1 B2 W X X) (fun s10 _ => m.length - (intOf s10).toNat)
  case atStart => exact ⟨0, W, Nat.zero_le _, rfl, by have := HR.out; omega, by have := HR.out; omega, H6.out⟩
  case round =>
    obtain ⟨k, X, hk, rfl, hs, hln, hW⟩ := hrel
    have HW := Lib.hid hW
    have HS := Lib.hid hs
    have HLN := Lib.hid hln
    clear hW hs hln HO5 HO4' H6
    by_cases hlt : k < m.length
    · obtain ⟨x, hx⟩ : ∃ x, m[k]? = some x := ⟨_, List.getElem?_eq_getElem hlt⟩
      obtain ⟨b, off, c', hv, ⟨a0, a1, a2, a3⟩, bl⟩ := sp_at HLM.out hx
      injection hv with hv hvn hc
      clear hvn
      subst hv hc
      have K := HW.out.kept0
      have f0 := (K.cell (a := ⟨b, off + k * 4, none⟩) bl (fun h => h)).trans a0
      have f1 := (K.cell (a := ⟨b, off + k * 4 + 1, none⟩) bl (fun h => h)).trans a1
      have f2 := (K.cell (a := ⟨b, off + k * 4 + 2, none⟩) bl (fun h => h)).trans a2
      have f3 := (K.cell (a := ⟨b, off + k * 4 + 3, none⟩) bl (fun h => h)).trans a3
      have blr := Nat.lt_of_lt_of_le bl K.size
      have j1 : (0 : Int) ≤ (k : Int) := by omega
      have j2 : (k : Int) < (m.length : Int) := by omega
      have HWX := Lib.hid (HWF.out x (List.mem_of_getElem? hx))
      clear a0 a1 a2 a3 K hx
      go_wp2_with fail
      obtain ⟨bx, hbx⟩ : ∃ bx, wr.heap.size = bx := ⟨_, rfl⟩
      obtain ⟨wA, hwA⟩ : ∃ wA, wr.alloc (.cells #[.int .i64 x.d, .int .i64 x.at_, .int .i64 x.id, .int .i64 x.h] 45) = wA := ⟨_, rfl⟩
      have HB0 : Hid (Box4 bx x wA) := Lib.hid (by rw [← hwA, ← hbx]; exact Box4.new _ _ _)
      have H0 : Hid (Wl3 w wA (fun b => b = bx) B B1 B2 W X X) := Lib.hid (HW.out.fresh (by rw [← hwA]; exact (Kept.refl _ wr).alloc _) (fun b q => by subst q; rw [← hwA, ← hbx]; exact ⟨by simp, .inr (Nat.le_refl _)⟩))
      have HLO : Hid (w.heap.size ≤ bx) := Lib.hid (by rw [← hbx]; exact HW.out.kept0.size)
      rw [hwA, hbx]
      clear hwA hbx f0 f1 f2 f3 blr HW
      obtain ⟨X1, hd, er, hadd⟩ : ∃ X1 hd er, X.add x.at_ x.id = (X1, hd, er) := ⟨_, _, _, rfl⟩
      obtain ⟨X2, ec, hcan⟩ : ∃ X2 ec, X1.cancel x.h = (X2, ec) := ⟨_, _, rfl⟩
      obtain ⟨X3, l3, ea, hadv⟩ : ∃ X3 l3 ea, X2.advance x.at_ = (X3, l3, ea) := ⟨_, _, _, rfl⟩
      have HS2 : Hid (X2.seq ≤ 40 + (k + 1 : Nat) ∧ X2.l.length ≤ 40 + (k + 1) ∧ X3.seq ≤ 40 + (k + 1 : Nat) ∧ X3.l.length ≤ 40 + (k + 1) ∧ l3.length ≤ 40 + (k + 1)) := Lib.hid (by
        have q1 := add_sl X x.at_ x.id
        have q2 := cancel_sl X1 x.h
        have q3 := advance_sl X2 x.at_
        have q4 : l3.length ≤ X2.l.length := by
          have : l3 = (X2.advance x.at_).2.1 := by rw [hadv]
          rw [this]; exact adv_out_le _ _
        have := HS.out
        have := HLN.out
        rw [hadd] at q1
        rw [hcan] at q2
        rw [hadv] at q3
        simp only at q1 q2 q3
        omega)
      have HS1 : Hid (X.seq ≤ 1000000000) := Lib.hid (by have := HS.out; omega)
      have HADD := Lib.hid hadd
      have HCAN := Lib.hid hcan
      have HADV := Lib.hid hadv
      have HWX3 := Lib.hid HWX.out.2.2.2
      clear hadd hcan hadv HWX
      refine (t_add H0.out HS1.out HADD.out).mono ?_
      rintro e w4 ⟨rfl, h, K⟩
      have H4 := Lib.hid h
      have HB4 := Lib.hid (HB0.out.kept K (fun s => s rfl))
      clear h K H0 HB0
      have f1 := HB4.out.c1
      have f2 := HB4.out.c2
      have f5 := HB4.out.lt
      go_wp2_with fail
      refine (t_add H4.out.swap HS1.out HADD.out).mono ?_
      rintro e w5 ⟨rfl, h, K⟩
      have H5 := Lib.hid h.swap
      have HB5 := Lib.hid (HB4.out.kept K (fun s => s rfl))
      clear h K H4 HB4 f1 f2 f5 HS1 HADD
      go_wp2_with fail
      have HC1 : Hid (∀ V, Kept (fun _ => False) w5 V → Calls Tryd.prog 20 #[.pointer (some ⟨B1, 0, none⟩), .int .i64 x.h] V fun e w' => e = .returned (.int .i64 ec) ∧ Wl3 w w' (fun b => b = bx) B B1 B2 W X2 X1 ∧ Box4 bx x w') := Lib.hid fun V K => by
        refine (t_cancel (H5.out.same K) HWX3.out.1 HWX3.out.2 HCAN.out).mono ?_
        rintro e w' ⟨rfl, h, K'⟩
        exact ⟨rfl, h, (HB5.out.kept K (fun h => h)).kept K' (fun s => s rfl)⟩
      have HX5 : Hid (∀ V, Kept (fun _ => False) w5 V → V.cell? ⟨bx, 3, none⟩ = some (.int .i64 x.h) ∧ bx < V.heap.size) := Lib.hid fun V K => ⟨(HB5.out.kept K (fun h => h)).c3, (HB5.out.kept K (fun h => h)).lt⟩
      clear H5 HB5
      go_region_held3 (fun V => V.cell? ⟨bx, 3, none⟩ = some (.int .i64 x.h) ∧ bx < V.heap.size) (first | exact HX7.out _ (by repeat (first | exact Kept.refl _ _ | refine Kept.drew ?_)) | exact HX6.out _ (by repeat (first | exact Kept.refl _ _ | refine Kept.drew ?_)) | exact HX5.out _ (by repeat (first | exact Kept.refl _ _ | refine Kept.drew ?_))) (first | (go_at_call 20; refine (HC2.out _ (by repeat (first | exact Kept.refl _ _ | refine Kept.drew ?_))).mono ?_; rintro e w7 ⟨rfl, h, hb⟩; have H7 := Lib.hid h; have HB7 := Lib.hid hb; clear h hb; have HX7 : Hid (∀ V, Kept (fun _ => False) w7 V → V.cell? ⟨bx, 3, none⟩ = some (.int .i64 x.h) ∧ bx < V.heap.size) := Lib.hid fun V K => ⟨(HB7.out.kept K (fun h => h)).c3, (HB7.out.kept K (fun h => h)).lt⟩) | (go_at_call 20; refine (HC1.out _ (by repeat (first | exact Kept.refl _ _ | refine Kept.drew ?_))).mono ?_; rintro e w6 ⟨rfl, h, hb⟩; have HC2 : Hid (∀ V, Kept (fun _ => False) w6 V → Calls Tryd.prog 20 #[.pointer (some ⟨B2, 0, none⟩), .int .i64 x.h] V fun e w' => e = .returned (.int .i64 ec) ∧ Wl3 w w' (fun b => b = bx) B B1 B2 W X2 X2 ∧ Box4 bx x w') := Lib.hid (fun V K => two_cancel h hb K HWX3.out HCAN.out); have HX6 : Hid (∀ V, Kept (fun _ => False) w6 V → V.cell? ⟨bx, 3, none⟩ = some (.int .i64 x.h) ∧ bx < V.heap.size) := Lib.hid fun V K => ⟨(hb.kept K (fun h => h)).c3, (hb.kept K (fun h => h)).lt⟩; clear h hb))
      clear HC1 HX5 HC2 HX6 HX7 HCAN
      have f0 := HB7.out.c0
      have f1 := HB7.out.c1
      have f5 := HB7.out.lt
      by_cases hd2 : x.d = 2
      · have q2 : (x.d == 2) = true := by simpa using hd2
        clear hd2
        go_wp2_with fail
        refine (t_advance H7.out HADV.out).mono ?_
        rintro e w8 ⟨v8, rfl, ho, h, K⟩
        obtain ⟨p8, c8, rfl⟩ := ho.sl
        rw [List.length_map] at ho h ⊢
        have HO8 := Lib.hid ho
        have H8 := Lib.hid h
        have HB8 := Lib.hid (HB7.out.kept K (fun s => s rfl))
        clear ho h K f0 f1 f5
        have f1 := HB8.out.c1
        have f5 := HB8.out.lt
        go_wp2_with fail
        refine (t_advance H8.out.swap HADV.out).mono ?_
        rintro e w9 ⟨v9, rfl, ho, h, K⟩
        obtain ⟨p9, c9, rfl⟩ := ho.sl
        rw [List.length_map] at ho h ⊢
        have HO9 := Lib.hid ho.rows
        have HO8' := Lib.hid (Own.rows (HO8.out.kept K (fun b _ q s => s (.inr q))))
        have H9 : Hid (Wl3 w w9 (fun _ => False) B B1 B2 W X3 X3) := Lib.hid (h.swap.mono fun b q => q.elim)
        clear ho h K HB8 f1 f5 H8 HO8
        have HL3 : Hid ((l3.map Tm.fd).length ≤ 1000000) := Lib.hid (by rw [List.length_map]; have := HS2.out; omega)
        go_wp2_with (go_at_call 19; refine (same_t HO8'.out HO9.out HL3.out).mono ?_; rintro e w10 ⟨rfl, K⟩; have H10 := Lib.hid (H9.out.same K); clear K)
        go_roundw
        case rel => exact ⟨k + 1, X3, by omega, by go_num, HS2.out.2.2.1, HS2.out.2.2.2.1, H10.out⟩
        case measure => simp [intOf]; omega
      · have q2 : (x.d == 2) = false := by simpa using hd2
        clear hd2
        go_wp2_with fail
        go_roundw
        case rel => exact ⟨k + 1, X2, by omega, by go_num, HS2.out.1, HS2.out.2.1, H7.out.mono fun b q => q.elim⟩
        case measure => simp [intOf]; omega
    · obtain rfl : k = m.length := by omega
      have HLX : Hid ((X.l.map Tm.fd).length ≤ 1000000) := Lib.hid (by rw [List.length_map]; have := HLN.out; omega)
      have HLW : Hid ((W.l.map Tm.fd).length ≤ 1000000) := Lib.hid (by rw [List.length_map]; exact HWN.out)
      clear hlt
      go_wp2_with fail
      refine (HFL.out _ HW.out.kept0).mono ?_
      rintro e w4 ⟨B4, rfl, h⟩
      have HU4 := Lib.hid h
      have H4 := Lib.hid (HW.out.same h.kept0)
      clear h
      go_wp2_with fail
      refine (t_list H4.out).mono ?_
      rintro e w5 ⟨v5, rfl, ho, K⟩
      obtain ⟨p5, c5, rfl⟩ := ho.sl
      rw [List.length_map] at ho ⊢
      have HO5 := Lib.hid ho.rows
      have H5 := Lib.hid (H4.out.same K)
      have HU5 := Lib.hid (HU4.out.same K)
      clear ho K H4 HU4
      go_wp2_with fail
      refine (t_list H5.out.swap).mono ?_
      rintro e w6 ⟨v6, rfl, ho, K⟩
      obtain ⟨p6, c6, rfl⟩ := ho.sl
      rw [List.length_map] at ho ⊢
      have HO6 := Lib.hid ho.rows
      have HO5' := Lib.hid (HO5.out.same K)
      have H6 := Lib.hid (H5.out.same K)
      have HU6 := Lib.hid (HU5.out.same K)
      clear ho K H5 HU5 HO5
      go_wp2_with fail
      refine (same_t HO5'.out HO6.out HLX.out).mono ?_
      rintro e w7 ⟨rfl, K⟩
      have H7 := Lib.hid (H6.out.same K)
      have HU7 := Lib.hid (HU6.out.same K)
      clear K H6 HU6 HO5' HO6
      go_wp2_with fail
      refine (l_list H7.out.zero).mono ?_
      rintro e w8 ⟨v8, rfl, ho, -, K⟩
      obtain ⟨p8, c8, rfl⟩ := ho.sl
      rw [List.length_map] at ho ⊢
      have HO8 := Lib.hid ho.rows
      have H8 := Lib.hid (H7.out.same K)
      have HU8 := Lib.hid (HU7.out.same K)
      clear ho K H7 HU7
      go_wp2_with fail
      refine (l_list HU8.out).mono ?_
      rintro e w9 ⟨v9, rfl, ho, -, K⟩
      obtain ⟨p9, c9, rfl⟩ := ho.sl
      rw [List.length_map] at ho ⊢
      have HO9 := Lib.hid ho.rows
      have HO8' := Lib.hid (HO8.out.same K)
      have H9 := Lib.hid (H8.out.same K)
      have HU9 := Lib.hid (HU8.out.same K)
      clear ho K H8 HU8 HO8
      go_wp2_with fail
      refine (same_t HO8'.out HO9.out HLW.out).mono ?_
      rintro e w10 ⟨rfl, K⟩
      have H10 := Lib.hid (H9.out.same K)
      have HU10 := Lib.hid (HU9.out.same K)
      clear K H9 HU9 HO8' HO9
      go_wp2_with fail
      refine (l_now H10.out.zero).mono ?_
      rintro e w' ⟨rfl, hww⟩
      obtain rfl := hww.symm
      go_wp2_with fail
      refine (l_now HU10.out).mono ?_
      rintro e w' ⟨rfl, hww⟩
      obtain rfl := hww.symm
      go_wp2_with fail
      refine (l_len H10.out.zero).mono ?_
      rintro e w' ⟨rfl, hww⟩
      obtain rfl := hww.symm
      go_wp2_with fail
      refine (l_len HU10.out).mono ?_
      rintro e w' ⟨rfl, hww⟩
      obtain rfl := hww.symm
      go_wp2_with fail
      refine (works_c H10.out.tab).mono ?_
      rintro e w11 ⟨rfl, K⟩
      have HK11 := Lib.hid K
      clear K
      go_wp2_with fail
      go_ret
      exact ⟨rfl, H10.out.kept0.trans HK11.out (fun _ _ h => h)⟩
end Go.Proofs.YtjlcchjcppkbjaaDoor

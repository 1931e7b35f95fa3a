/- WhCnsW: texts for the statements of this seat: contracts of functions, walks, plain laws. Conditions: none. -/
import Derived.Test.YtjlcchjcppkbjaaDoorWhDuo
import Derived.Test.YtjlcchjcppkbjaaDoorWhListW
import Derived.Test.YtjlcchjcppkbjaaDoorGeAll
import Derived.Test.YtjlcchjcppkbjaaDoorWhAddTwo
set_option linter.all false
/- WheelCancels. -/
namespace Go.Proofs.YtjlcchjcppkbjaaDoor
open Go.RowKit
variable {w w' : World} {F : Nat → Prop}
/-- The agg of a step. -/
def Sp.val (s : Sp) : Value := .agg #[.int .i64 s.d, .int .i64 s.at_, .int .i64 s.id, .int .i64 s.h]
/-- The end of the law: behind the first Add that failed. -/
def CnsPre (w0 : World) (b1 b2 : Nat) (x y : Sp) (W : World) : Prop := (W.cell? ⟨b1, 1, none⟩ = some (.int .i64 x.at_) ∧ W.cell? ⟨b1, 2, none⟩ = some (.int .i64 x.id) ∧ W.cell? ⟨b2, 1, none⟩ = some (.int .i64 y.at_) ∧ W.cell? ⟨b2, 2, none⟩ = some (.int .i64 y.id)) ∧ b1 < W.heap.size ∧ b2 < W.heap.size
theorem CnsPre.same {w0 : World} {b1 b2 : Nat} {x y : Sp} {W V : World} (h : CnsPre w0 b1 b2 x y W) (K : Kept (fun _ => False) W V) : CnsPre w0 b1 b2 x y V := by
  obtain ⟨⟨h1, h2, h3, h4⟩, l1, l2⟩ := h
  exact ⟨⟨(K.cell (a := ⟨b1, 1, none⟩) l1 (fun h => h)).trans h1, (K.cell (a := ⟨b1, 2, none⟩) l1 (fun h => h)).trans h2, (K.cell (a := ⟨b2, 1, none⟩) l2 (fun h => h)).trans h3, (K.cell (a := ⟨b2, 2, none⟩) l2 (fun h => h)).trans h4⟩, Nat.lt_of_lt_of_le l1 K.size, Nat.lt_of_lt_of_le l2 K.size⟩
set_option maxRecDepth 100000 in
set_option maxHeartbeats 1000000 in
theorem wheelCancels_w {v : Value} {l : List Sp} (hT : Tab w) (now : Int) (hl : Rows spC 4 w v l) (hm : l.length ≤ maxLen) (hwf : ∀ x ∈ l, x.wf) (x y : Sp) : Calls Tryd.prog 12 #[.int .i64 now, v, .agg #[.int .i64 x.d, .int .i64 x.at_, .int .i64 x.id, .int .i64 x.h], .agg #[.int .i64 y.d, .int .i64 y.at_, .int .i64 y.id, .int .i64 y.h]] w fun e w' => e = .returned (.bool true) ∧ Kept (fun _ => False) w w' := by
  obtain ⟨p, c, rfl⟩ := hl.len
  obtain ⟨wq, hwq⟩ : ∃ wq, ((w.alloc (.cells #[.int .i64 x.d, .int .i64 x.at_, .int .i64 x.id, .int .i64 x.h] 45)).alloc (.cells #[.int .i64 y.d, .int .i64 y.at_, .int .i64 y.id, .int .i64 y.h] 45)) = wq := ⟨_, rfl⟩
  have HKQ : Hid (Kept (fun _ => False) w wq) := Lib.hid (by rw [← hwq]; exact ((Kept.refl _ w).alloc _).alloc _)
  have HPRE : Hid (CnsPre w w.heap.size (w.heap.size + 1) x y wq) := Lib.hid (by
    have e1 : ∀ j, wq.cell? ⟨w.heap.size, j, none⟩ = (#[.int .i64 x.d, .int .i64 x.at_, .int .i64 x.id, .int .i64 x.h] : Array Value)[j]? := fun j => by
      rw [← hwq, World.cell?_alloc_past _ _ _ (by simp only [World.size_alloc]; omega)]
      exact World.cell?_alloc_at _ _ _ _ rfl
    have e2 : ∀ j, wq.cell? ⟨w.heap.size + 1, j, none⟩ = (#[.int .i64 y.d, .int .i64 y.at_, .int .i64 y.id, .int .i64 y.h] : Array Value)[j]? := fun j => by
      rw [← hwq]; exact World.cell?_alloc_at _ _ _ _ (by simp)
    have hs : wq.heap.size = w.heap.size + 1 + 1 := by rw [← hwq]; simp
    exact ⟨⟨e1 1, e1 2, e2 1, e2 2⟩, by omega, by omega⟩)
  have HTQ := Lib.hid (hT.kept HKQ.out (fun h => h))
  have HWK := Lib.hid (works_c HTQ.out)
  have hlq := hl.same HKQ.out
  by_cases g1 : l.length > 50
  · have d1 : decide ((50 : Int) < (l.length : Int)) = true := by simp; omega
    clear hT hl hwf hlq
    go_enter Tryd.func12, Tryd.ntmps12
    go_wp2_with (go_at_call 13; refine HWK.out.mono ?_; rintro e w' ⟨rfl, K⟩; have HK := Lib.hid K; clear K)
    go_ret
    exact ⟨rfl, HKQ.out.trans HK.out (fun _ _ h => h)⟩
  have d1 : decide ((50 : Int) < (l.length : Int)) = false := by simp; omega
  by_cases g2 : now < 0
  · clear hT hl hwf hlq
    go_enter Tryd.func12, Tryd.ntmps12
    go_wp2_with (go_at_call 13; refine HWK.out.mono ?_; rintro e w' ⟨rfl, K⟩; have HK := Lib.hid K; clear K)
    go_ret
    exact ⟨rfl, HKQ.out.trans HK.out (fun _ _ h => h)⟩
  by_cases g3 : now > 4611686018427387904
  · clear hT hl hwf hlq
    go_enter Tryd.func12, Tryd.ntmps12
    go_wp2_with (go_at_call 13; refine HWK.out.mono ?_; rintro e w' ⟨rfl, K⟩; have HK := Lib.hid K; clear K)
    go_ret
    exact ⟨rfl, HKQ.out.trans HK.out (fun _ _ h => h)⟩
  have HFL := Lib.hid (filled_c (F := fun _ => False) (now := now) HTQ.out hlq (by omega) hwf (by omega) (by omega) (fun _ h => h.elim))
  have HR := Lib.hid (run_new now l (k := 60) (by omega))
  clear hT hl hwf hlq
  generalize (Wh.new 60 now).run l = W at HFL HR
  have HSQ : Hid (W.seq ≤ 1000000000) := Lib.hid (by have := HR.out; omega)
  obtain ⟨W1, hd, er, hadd⟩ : ∃ W1 hd er, W.add x.at_ x.id = (W1, hd, er) := ⟨_, _, _, rfl⟩
  have HADD := Lib.hid hadd
  clear hadd
  by_cases her : er = 0
  · subst her
    go_enter Tryd.func12, Tryd.ntmps12
    go_wp2_with (first | (go_at_call 23; refine HFL.out.mono ?_; rintro e w1 ⟨B, rfl, h⟩; have H1 := Lib.hid h; clear h hwq) | (go_at_call 26; refine (d_copy H1.out (fun _ h => h.elim)).mono ?_; rintro e w2 ⟨B2, rfl, h, -⟩; have H2 := Lib.hid h; clear h; obtain ⟨⟨f1, f2, -, -⟩, f5, -⟩ := HPRE.out.same H2.out.kept0) | (go_at_call 15; refine (d_add H2.out HSQ.out HADD.out).mono ?_; rintro e w3 ⟨rfl, h, -⟩; have H3 := Lib.hid h; clear h f1 f2 f5))
    obtain ⟨W2, hc1, okW2, n2, s2, l2, z2, u2, hc2, hlo, hhi, s1⟩ := add_cancel H2.out.ok HSQ.out HADD.out
    have okW := H2.out.ok
    have hS2 : W2.seq ≤ 1000000000 := by have := HR.out; omega
    have hrm : W2.a.room = W.a.room := by have q1 := okW2.room hS2; have q2 := okW.room HSQ.out; rw [l2, z2] at q1; omega
    have hcn : ∀ z ∈ W2.l, z.h ≠ hd := fun z hz e => by
      have := cancel_some hz e
      rw [hc2] at this
      injection this with _ q
      exact absurd q (by decide)
    obtain ⟨V', k, f, W', k2, p1, p2, p3, p4⟩ := add_two okW okW2 HSQ.out hS2 n2 l2 z2 u2 hcn y.at_ y.id
    have HP1 := Lib.hid p1
    have HP2 := Lib.hid p2
    have HP3 := Lib.hid p3
    have HP4 := Lib.hid p4
    have HC1 := Lib.hid hc1
    have HC2 := Lib.hid hc2
    have HL2 := Lib.hid l2
    have HS2 := Lib.hid hS2
    have HHD : Hid (-9223372036854775808 ≤ hd ∧ hd ≤ 9223372036854775807) := Lib.hid (by omega)
    have hl60 : W.l.length ≤ 60 := HR.out.2
    clear hc1 okW2 n2 s2 l2 z2 u2 hc2 hlo hhi s1 okW hS2 hcn p2 p3 p4
    have HLV : Hid (V'.l.length ≤ 1000000) := Lib.hid (by
      have q2 := (add_sl W2 y.at_ y.id).2.1
      have q3 : W2.l.length = W.l.length := by rw [HL2.out]
      rw [p1] at q2
      simp only at q2
      omega)
    clear p1
    by_cases hf : f = 0
    · subst hf
      have HP5 := Lib.hid (HP4.out rfl).2
      have hkh : (k == hd) = false := by simpa using (HP4.out rfl).1
      refine (d_cancel H3.out HHD.out.1 HHD.out.2 HC1.out).mono ?_
      rintro e w4 ⟨rfl, h, -⟩
      have H4 := Lib.hid h
      clear h
      go_wp2_with (first | (go_at_call 20; refine (d_cancel H11.out HHD.out.1 HHD.out.2 HP5.out).mono ?_; rintro e w12 ⟨rfl, h, -⟩; have H12 := Lib.hid h; clear h f3 f4 f6; obtain ⟨⟨-, -, f3, f4⟩, -, f6⟩ := HPRE.out.same H12.out.kept0) | (go_at_call 20; refine (d_cancel H4.out HHD.out.1 HHD.out.2 HC2.out).mono ?_; rintro e w5 ⟨rfl, h, -⟩; have H5 := Lib.hid h; clear h) | (go_at_call 24; refine (d_list H14.out.swap).mono ?_; rintro e w15 ⟨v15, rfl, ho, h, K⟩; rw [← HP3.out] at ho; obtain ⟨p15, c15, rfl⟩ := ho.sl; rw [List.length_map] at ho h; have HO15 := Lib.hid ho.rows; have HO14' := Lib.hid (HO14.out.same K); have H15 := Lib.hid h.swap; clear ho h K) | (go_at_call 24; refine (d_list H13.out).mono ?_; rintro e w14 ⟨v14, rfl, ho, h, K⟩; obtain ⟨p14, c14, rfl⟩ := ho.sl; rw [List.length_map] at ho h; have HO14 := Lib.hid ho.rows; have H14 := Lib.hid h; clear ho h K) | (go_at_call 24; refine (d_list H6.out.swap).mono ?_; rintro e w7 ⟨v7, rfl, ho, h, K⟩; obtain ⟨p7, c7, rfl⟩ := ho.sl; rw [List.length_map] at ho h; have HO7 := Lib.hid ho.rows; have HO6' := Lib.hid (HO6.out.same K); have H7 := Lib.hid h.swap; clear ho h K) | (go_at_call 24; refine (d_list H5.out).mono ?_; rintro e w6 ⟨v6, rfl, ho, h, K⟩; rw [HL2.out] at ho; obtain ⟨p6, c6, rfl⟩ := ho.sl; rw [List.length_map] at ho h; have HO6 := Lib.hid ho.rows; have H6 := Lib.hid h; clear ho h K) | (go_at_call 19; refine (same_c HO14'.out HO15.out (by rw [List.length_map]; exact HLV.out)).mono ?_; rintro e w16 ⟨rfl, K⟩; have H16 := Lib.hid (H15.out.same K); clear K; simp only [decide_true]; have HWK16 := Lib.hid (works_c H16.out.tab)) | (go_at_call 19; refine (same_c HO6'.out HO7.out (by rw [List.length_map]; omega)).mono ?_; rintro e w8 ⟨rfl, K⟩; have H8 := Lib.hid (H7.out.same K); clear K; simp only [decide_true]) | (go_at_call 22; refine (d_room H9.out.swap).mono ?_; rintro e w10 ⟨rfl, h, -⟩; have H10 := Lib.hid (h.swap.mono (G := fun _ => False) (fun _ q => q.elim)); clear h; obtain ⟨⟨-, -, f3, f4⟩, -, f6⟩ := HPRE.out.same H10.out.kept0) | (go_at_call 22; refine (d_room H8.out).mono ?_; rintro e w9 ⟨rfl, h, -⟩; rw [hrm]; have H9 := Lib.hid h; clear h) | (go_at_call 15; refine (d_add H12.out.swap HSQ.out HP2.out).mono ?_; rintro e w13 ⟨rfl, h, -⟩; have H13 := Lib.hid h.swap; clear h f3 f4 f6) | (go_at_call 15; refine (d_add H10.out HS2.out HP1.out).mono ?_; rintro e w11 ⟨rfl, h, -⟩; have H11 := Lib.hid h; clear h f3 f4 f6; obtain ⟨⟨-, -, f3, f4⟩, -, f6⟩ := HPRE.out.same H11.out.kept0) | (go_at_call 13; refine HWK16.out.mono ?_; rintro e w17 ⟨rfl, K⟩; have HK17 := Lib.hid K; clear K))
      go_ret
      exact ⟨rfl, HKQ.out.trans (H16.out.kept0.trans HK17.out (fun _ _ h => h)) (fun _ _ h => h)⟩
    · have hf1 : (f == 0) = false := by simpa using hf
      clear hf
      refine (d_cancel H3.out HHD.out.1 HHD.out.2 HC1.out).mono ?_
      rintro e w4 ⟨rfl, h, -⟩
      have H4 := Lib.hid h
      clear h
      go_wp2_with (first | (go_at_call 20; refine (d_cancel H4.out HHD.out.1 HHD.out.2 HC2.out).mono ?_; rintro e w5 ⟨rfl, h, -⟩; have H5 := Lib.hid h; clear h) | (go_at_call 24; refine (d_list H14.out.swap).mono ?_; rintro e w15 ⟨v15, rfl, ho, h, K⟩; rw [← HP3.out] at ho; obtain ⟨p15, c15, rfl⟩ := ho.sl; rw [List.length_map] at ho h; have HO15 := Lib.hid ho.rows; have HO14' := Lib.hid (HO14.out.same K); have H15 := Lib.hid h.swap; clear ho h K) | (go_at_call 24; refine (d_list H13.out).mono ?_; rintro e w14 ⟨v14, rfl, ho, h, K⟩; obtain ⟨p14, c14, rfl⟩ := ho.sl; rw [List.length_map] at ho h; have HO14 := Lib.hid ho.rows; have H14 := Lib.hid h; clear ho h K) | (go_at_call 24; refine (d_list H6.out.swap).mono ?_; rintro e w7 ⟨v7, rfl, ho, h, K⟩; obtain ⟨p7, c7, rfl⟩ := ho.sl; rw [List.length_map] at ho h; have HO7 := Lib.hid ho.rows; have HO6' := Lib.hid (HO6.out.same K); have H7 := Lib.hid h.swap; clear ho h K) | (go_at_call 24; refine (d_list H5.out).mono ?_; rintro e w6 ⟨v6, rfl, ho, h, K⟩; rw [HL2.out] at ho; obtain ⟨p6, c6, rfl⟩ := ho.sl; rw [List.length_map] at ho h; have HO6 := Lib.hid ho.rows; have H6 := Lib.hid h; clear ho h K) | (go_at_call 19; refine (same_c HO14'.out HO15.out (by rw [List.length_map]; exact HLV.out)).mono ?_; rintro e w16 ⟨rfl, K⟩; have H16 := Lib.hid (H15.out.same K); clear K; simp only [decide_true]; have HWK16 := Lib.hid (works_c H16.out.tab)) | (go_at_call 19; refine (same_c HO6'.out HO7.out (by rw [List.length_map]; omega)).mono ?_; rintro e w8 ⟨rfl, K⟩; have H8 := Lib.hid (H7.out.same K); clear K; simp only [decide_true]) | (go_at_call 22; refine (d_room H9.out.swap).mono ?_; rintro e w10 ⟨rfl, h, -⟩; have H10 := Lib.hid (h.swap.mono (G := fun _ => False) (fun _ q => q.elim)); clear h; obtain ⟨⟨-, -, f3, f4⟩, -, f6⟩ := HPRE.out.same H10.out.kept0) | (go_at_call 22; refine (d_room H8.out).mono ?_; rintro e w9 ⟨rfl, h, -⟩; rw [hrm]; have H9 := Lib.hid h; clear h) | (go_at_call 15; refine (d_add H11.out.swap HSQ.out HP2.out).mono ?_; rintro e w13 ⟨rfl, h, -⟩; have H13 := Lib.hid h.swap; clear h f3 f4 f6) | (go_at_call 15; refine (d_add H10.out HS2.out HP1.out).mono ?_; rintro e w11 ⟨rfl, h, -⟩; have H11 := Lib.hid h; clear h f3 f4 f6; obtain ⟨⟨-, -, f3, f4⟩, -, f6⟩ := HPRE.out.same H11.out.kept0) | (go_at_call 13; refine HWK16.out.mono ?_; rintro e w17 ⟨rfl, K⟩; have HK17 := Lib.hid K; clear K))
      go_ret
      exact ⟨rfl, HKQ.out.trans (H16.out.kept0.trans HK17.out (fun _ _ h => h)) (fun _ _ h => h)⟩
  · have her1 : (er != 0) = true := by simpa using her
    go_enter Tryd.func12, Tryd.ntmps12
    go_wp2_with (first | (go_at_call 23; refine HFL.out.mono ?_; rintro e w1 ⟨B, rfl, h⟩; have H1 := Lib.hid h; clear h hwq) | (go_at_call 26; refine (d_copy H1.out (fun _ h => h.elim)).mono ?_; rintro e w2 ⟨B2, rfl, h, -⟩; have H2 := Lib.hid h; clear h; obtain ⟨⟨f1, f2, -, -⟩, f5, -⟩ := HPRE.out.same H2.out.kept0) | (go_at_call 15; refine (d_add H2.out HSQ.out HADD.out).mono ?_; rintro e w3 ⟨rfl, h, -⟩; have H3 := Lib.hid h; clear h f1 f2 f5; obtain ⟨⟨f1, -, -, -⟩, f5, -⟩ := HPRE.out.same H3.out.kept0))
    have HWK3 : Hid (∀ W, Kept (fun _ => False) w3 W → Calls Tryd.prog 13 #[] W fun e w' => e = .returned (.bool true) ∧ Kept (fun _ => False) W w') := Lib.hid fun W K => works_c (H3.out.same K).tab
    rcases add_four H2.out.ok HSQ.out x.at_ x.id with ⟨h1, h2⟩ | ⟨h0, h1, h3, h2⟩ | ⟨h1, h3, hfull, h2⟩ | ⟨-, -, -, W', h, h2, -⟩
    all_goals have h2' := HADD.out.symm.trans h2
    · injection h2' with e1 e2
      injection e2 with e2 e3
      have e1 := e1.symm
      subst e1 e2 e3
      have hN : NEVER = 4611686018427387904 := rfl
      have hok := H2.out.ok.now
      by_cases hx : x.at_ ≤ W.now
      · have q1 : decide (x.at_ ≤ W.now) = true := by simpa using hx
        clear h2 hok
        refine wp_region_class (fun W => W.cell? ⟨w.heap.size, 1, none⟩ = some (.int .i64 x.at_) ∧ w.heap.size < W.heap.size ∧ Kept (fun _ => False) w3 W) (by kernel_rfl) (by kernel_rfl) ⟨f1, f5, (Kept.refl _ w3).drew⟩ ?_
        clear f1 f5
        iterate 1 (first | go_big_quiet_skip | (go_big_quiet_want; go_big_quiet_op; first | go_big_quiet_on | (refine ⟨_, fun _ _ _ _ => rfl, ?_⟩; go_big_quiet_on)))
        go_big_quiet_want
        go_big_quiet_op
        refine ⟨.int .i64 x.at_, fun W d0 dl dK => by simp [d0], ?_⟩
        go_big_quiet_on
        iterate 1 (first | go_big_quiet_skip | (go_big_quiet_want; go_big_quiet_op; first | go_big_quiet_on | (refine ⟨_, fun _ _ _ _ => rfl, ?_⟩; go_big_quiet_on)))
        go_big_quiet_want
        go_big_quiet_op
        refine ⟨.int .i64 W.now, fun W d0 dl dK => ?_, ?_⟩
        · refine (d_now (H3.out.same dK)).mono ?_
          rintro e W' ⟨rfl, hww⟩
          obtain rfl := hww.symm
          exact ⟨rfl, d0, dl, dK⟩
        go_big_quiet_on
        iterate 6 (first | go_big_quiet_skip | (go_big_quiet_want; go_big_quiet_op; first | go_big_quiet_on | (refine ⟨_, fun _ _ _ _ => rfl, ?_⟩; go_big_quiet_on)))
        go_big_quiet_want
        go_big_quiet_op
        refine ⟨.bool true, fun W d0 dl dK => ?_, ?_⟩
        · refine (HWK3.out W dK).mono ?_
          rintro e W' ⟨rfl, K⟩
          exact ⟨rfl, (K.cell (a := ⟨w.heap.size, 1, none⟩) dl (fun h => h)).trans d0, Nat.lt_of_lt_of_le dl K.size, dK.trans K (fun _ _ h => h)⟩
        go_big_quiet_on
        iterate 2 (first | go_big_quiet_skip | (go_big_quiet_want; go_big_quiet_op; first | go_big_quiet_on | (refine ⟨_, fun _ _ _ _ => rfl, ?_⟩; go_big_quiet_on)))
        iterate 10 (first | go_big_quiet_skip | (go_big_quiet_want; go_big_quiet_op; first | go_big_quiet_on | (refine ⟨_, fun _ _ _ _ => rfl, ?_⟩; go_big_quiet_on)))
        iterate 2 (first | go_big_quiet_skip | (go_big_quiet_want; go_big_quiet_op; first | go_big_quiet_on | (refine ⟨_, fun _ _ _ _ => rfl, ?_⟩; go_big_quiet_on)))
        iterate 6 (first | go_big_quiet_skip | (go_big_quiet_want; go_big_quiet_op; first | go_big_quiet_on | (refine ⟨_, fun _ _ _ _ => rfl, ?_⟩; go_big_quiet_on)))
        iterate 2 (first | go_big_quiet_skip | (go_big_quiet_want; go_big_quiet_op; first | go_big_quiet_on | (refine ⟨_, fun _ _ _ _ => rfl, ?_⟩; go_big_quiet_on)))
        refine wpQuiet_nil ?_
        intro w9 ⟨_, _, K9⟩
        go_wp2_with fail
        go_ret
        exact ⟨rfl, HKQ.out.trans (H3.out.kept0.trans K9 (fun _ _ h => h)) (fun _ _ h => h)⟩
      · have q1 : decide (x.at_ ≤ W.now) = false := by simpa using hx
        have hx2 : NEVER < x.at_ := by omega
        have q2 : decide (4611686018427387904 < x.at_) = true := by simp only [decide_eq_true_eq]; omega
        clear h2 hok
        refine wp_region_class (fun W => W.cell? ⟨w.heap.size, 1, none⟩ = some (.int .i64 x.at_) ∧ w.heap.size < W.heap.size ∧ Kept (fun _ => False) w3 W) (by kernel_rfl) (by kernel_rfl) ⟨f1, f5, (Kept.refl _ w3).drew⟩ ?_
        clear f1 f5
        iterate 1 (first | go_big_quiet_skip | (go_big_quiet_want; go_big_quiet_op; first | go_big_quiet_on | (refine ⟨_, fun _ _ _ _ => rfl, ?_⟩; go_big_quiet_on)))
        go_big_quiet_want
        go_big_quiet_op
        refine ⟨.int .i64 x.at_, fun W d0 dl dK => by simp [d0], ?_⟩
        go_big_quiet_on
        iterate 1 (first | go_big_quiet_skip | (go_big_quiet_want; go_big_quiet_op; first | go_big_quiet_on | (refine ⟨_, fun _ _ _ _ => rfl, ?_⟩; go_big_quiet_on)))
        go_big_quiet_want
        go_big_quiet_op
        refine ⟨.int .i64 W.now, fun W d0 dl dK => ?_, ?_⟩
        · refine (d_now (H3.out.same dK)).mono ?_
          rintro e W' ⟨rfl, hww⟩
          obtain rfl := hww.symm
          exact ⟨rfl, d0, dl, dK⟩
        go_big_quiet_on
        iterate 2 (first | go_big_quiet_skip | (go_big_quiet_want; go_big_quiet_op; first | go_big_quiet_on | (refine ⟨_, fun _ _ _ _ => rfl, ?_⟩; go_big_quiet_on)))
        iterate 2 (first | go_big_quiet_skip | (go_big_quiet_want; go_big_quiet_op; first | go_big_quiet_on | (refine ⟨_, fun _ _ _ _ => rfl, ?_⟩; go_big_quiet_on)))
        iterate 2 (first | go_big_quiet_skip | (go_big_quiet_want; go_big_quiet_op; first | go_big_quiet_on | (refine ⟨_, fun _ _ _ _ => rfl, ?_⟩; go_big_quiet_on)))
        iterate 1 (first | go_big_quiet_skip | (go_big_quiet_want; go_big_quiet_op; first | go_big_quiet_on | (refine ⟨_, fun _ _ _ _ => rfl, ?_⟩; go_big_quiet_on)))
        iterate 3 (first | go_big_quiet_skip | (go_big_quiet_want; go_big_quiet_op; first | go_big_quiet_on | (refine ⟨_, fun _ _ _ _ => rfl, ?_⟩; go_big_quiet_on)))
        go_big_quiet_want
        go_big_quiet_op
        refine ⟨.int .i64 x.at_, fun W d0 dl dK => by simp [d0], ?_⟩
        go_big_quiet_on
        iterate 6 (first | go_big_quiet_skip | (go_big_quiet_want; go_big_quiet_op; first | go_big_quiet_on | (refine ⟨_, fun _ _ _ _ => rfl, ?_⟩; go_big_quiet_on)))
        go_big_quiet_want
        go_big_quiet_op
        refine ⟨.bool true, fun W d0 dl dK => ?_, ?_⟩
        · refine (HWK3.out W dK).mono ?_
          rintro e W' ⟨rfl, K⟩
          exact ⟨rfl, (K.cell (a := ⟨w.heap.size, 1, none⟩) dl (fun h => h)).trans d0, Nat.lt_of_lt_of_le dl K.size, dK.trans K (fun _ _ h => h)⟩
        go_big_quiet_on
        iterate 3 (first | go_big_quiet_skip | (go_big_quiet_want; go_big_quiet_op; first | go_big_quiet_on | (refine ⟨_, fun _ _ _ _ => rfl, ?_⟩; go_big_quiet_on)))
        iterate 6 (first | go_big_quiet_skip | (go_big_quiet_want; go_big_quiet_op; first | go_big_quiet_on | (refine ⟨_, fun _ _ _ _ => rfl, ?_⟩; go_big_quiet_on)))
        iterate 2 (first | go_big_quiet_skip | (go_big_quiet_want; go_big_quiet_op; first | go_big_quiet_on | (refine ⟨_, fun _ _ _ _ => rfl, ?_⟩; go_big_quiet_on)))
        refine wpQuiet_nil ?_
        intro w9 ⟨_, _, K9⟩
        go_wp2_with fail
        go_ret
        exact ⟨rfl, HKQ.out.trans (H3.out.kept0.trans K9 (fun _ _ h => h)) (fun _ _ h => h)⟩
    · injection h2' with e1 e2
      injection e2 with e2 e3
      have e1 := e1.symm
      subst e1 e2 e3
      have q1 : decide (x.at_ ≤ W.now) = true := by simpa using h3
      clear h0 h2
      refine wp_region_class (fun W => W.cell? ⟨w.heap.size, 1, none⟩ = some (.int .i64 x.at_) ∧ w.heap.size < W.heap.size ∧ Kept (fun _ => False) w3 W) (by kernel_rfl) (by kernel_rfl) ⟨f1, f5, (Kept.refl _ w3).drew⟩ ?_
      clear f1 f5
      iterate 1 (first | go_big_quiet_skip | (go_big_quiet_want; go_big_quiet_op; first | go_big_quiet_on | (refine ⟨_, fun _ _ _ _ => rfl, ?_⟩; go_big_quiet_on)))
      go_big_quiet_want
      go_big_quiet_op
      refine ⟨.int .i64 x.at_, fun W d0 dl dK => by simp [d0], ?_⟩
      go_big_quiet_on
      iterate 1 (first | go_big_quiet_skip | (go_big_quiet_want; go_big_quiet_op; first | go_big_quiet_on | (refine ⟨_, fun _ _ _ _ => rfl, ?_⟩; go_big_quiet_on)))
      go_big_quiet_want
      go_big_quiet_op
      refine ⟨.int .i64 W.now, fun W d0 dl dK => ?_, ?_⟩
      · refine (d_now (H3.out.same dK)).mono ?_
        rintro e W' ⟨rfl, hww⟩
        obtain rfl := hww.symm
        exact ⟨rfl, d0, dl, dK⟩
      go_big_quiet_on
      iterate 6 (first | go_big_quiet_skip | (go_big_quiet_want; go_big_quiet_op; first | go_big_quiet_on | (refine ⟨_, fun _ _ _ _ => rfl, ?_⟩; go_big_quiet_on)))
      go_big_quiet_want
      go_big_quiet_op
      refine ⟨.bool true, fun W d0 dl dK => ?_, ?_⟩
      · refine (HWK3.out W dK).mono ?_
        rintro e W' ⟨rfl, K⟩
        exact ⟨rfl, (K.cell (a := ⟨w.heap.size, 1, none⟩) dl (fun h => h)).trans d0, Nat.lt_of_lt_of_le dl K.size, dK.trans K (fun _ _ h => h)⟩
      go_big_quiet_on
      iterate 2 (first | go_big_quiet_skip | (go_big_quiet_want; go_big_quiet_op; first | go_big_quiet_on | (refine ⟨_, fun _ _ _ _ => rfl, ?_⟩; go_big_quiet_on)))
      iterate 10 (first | go_big_quiet_skip | (go_big_quiet_want; go_big_quiet_op; first | go_big_quiet_on | (refine ⟨_, fun _ _ _ _ => rfl, ?_⟩; go_big_quiet_on)))
      iterate 2 (first | go_big_quiet_skip | (go_big_quiet_want; go_big_quiet_op; first | go_big_quiet_on | (refine ⟨_, fun _ _ _ _ => rfl, ?_⟩; go_big_quiet_on)))
      iterate 6 (first | go_big_quiet_skip | (go_big_quiet_want; go_big_quiet_op; first | go_big_quiet_on | (refine ⟨_, fun _ _ _ _ => rfl, ?_⟩; go_big_quiet_on)))
      iterate 2 (first | go_big_quiet_skip | (go_big_quiet_want; go_big_quiet_op; first | go_big_quiet_on | (refine ⟨_, fun _ _ _ _ => rfl, ?_⟩; go_big_quiet_on)))
      refine wpQuiet_nil ?_
      intro w9 ⟨_, _, K9⟩
      go_wp2_with fail
      go_ret
      exact ⟨rfl, HKQ.out.trans (H3.out.kept0.trans K9 (fun _ _ h => h)) (fun _ _ h => h)⟩
    · injection h2' with e1 e2
      injection e2 with e2 e3
      have e1 := e1.symm
      subst e1 e2 e3
      have hN : NEVER = 4611686018427387904 := rfl
      have hok := H2.out.ok.now
      have HRM : Hid (W.a.room = 0) := Lib.hid (by have := H2.out.ok.room HSQ.out; omega)
      have q1 : decide (x.at_ ≤ W.now) = false := by simp only [decide_eq_false_iff_not]; omega
      have q2 : decide (4611686018427387904 < x.at_) = false := by simp only [decide_eq_false_iff_not]; omega
      clear h2 hfull hok
      refine wp_region_class (fun W => W.cell? ⟨w.heap.size, 1, none⟩ = some (.int .i64 x.at_) ∧ w.heap.size < W.heap.size ∧ Kept (fun _ => False) w3 W) (by kernel_rfl) (by kernel_rfl) ⟨f1, f5, (Kept.refl _ w3).drew⟩ ?_
      clear f1 f5
      iterate 1 (first | go_big_quiet_skip | (go_big_quiet_want; go_big_quiet_op; first | go_big_quiet_on | (refine ⟨_, fun _ _ _ _ => rfl, ?_⟩; go_big_quiet_on)))
      go_big_quiet_want
      go_big_quiet_op
      refine ⟨.int .i64 x.at_, fun W d0 dl dK => by simp [d0], ?_⟩
      go_big_quiet_on
      iterate 1 (first | go_big_quiet_skip | (go_big_quiet_want; go_big_quiet_op; first | go_big_quiet_on | (refine ⟨_, fun _ _ _ _ => rfl, ?_⟩; go_big_quiet_on)))
      go_big_quiet_want
      go_big_quiet_op
      refine ⟨.int .i64 W.now, fun W d0 dl dK => ?_, ?_⟩
      · refine (d_now (H3.out.same dK)).mono ?_
        rintro e W' ⟨rfl, hww⟩
        obtain rfl := hww.symm
        exact ⟨rfl, d0, dl, dK⟩
      go_big_quiet_on
      iterate 2 (first | go_big_quiet_skip | (go_big_quiet_want; go_big_quiet_op; first | go_big_quiet_on | (refine ⟨_, fun _ _ _ _ => rfl, ?_⟩; go_big_quiet_on)))
      iterate 2 (first | go_big_quiet_skip | (go_big_quiet_want; go_big_quiet_op; first | go_big_quiet_on | (refine ⟨_, fun _ _ _ _ => rfl, ?_⟩; go_big_quiet_on)))
      iterate 2 (first | go_big_quiet_skip | (go_big_quiet_want; go_big_quiet_op; first | go_big_quiet_on | (refine ⟨_, fun _ _ _ _ => rfl, ?_⟩; go_big_quiet_on)))
      iterate 1 (first | go_big_quiet_skip | (go_big_quiet_want; go_big_quiet_op; first | go_big_quiet_on | (refine ⟨_, fun _ _ _ _ => rfl, ?_⟩; go_big_quiet_on)))
      iterate 3 (first | go_big_quiet_skip | (go_big_quiet_want; go_big_quiet_op; first | go_big_quiet_on | (refine ⟨_, fun _ _ _ _ => rfl, ?_⟩; go_big_quiet_on)))
      go_big_quiet_want
      go_big_quiet_op
      refine ⟨.int .i64 x.at_, fun W d0 dl dK => by simp [d0], ?_⟩
      go_big_quiet_on
      iterate 2 (first | go_big_quiet_skip | (go_big_quiet_want; go_big_quiet_op; first | go_big_quiet_on | (refine ⟨_, fun _ _ _ _ => rfl, ?_⟩; go_big_quiet_on)))
      iterate 2 (first | go_big_quiet_skip | (go_big_quiet_want; go_big_quiet_op; first | go_big_quiet_on | (refine ⟨_, fun _ _ _ _ => rfl, ?_⟩; go_big_quiet_on)))
      iterate 2 (first | go_big_quiet_skip | (go_big_quiet_want; go_big_quiet_op; first | go_big_quiet_on | (refine ⟨_, fun _ _ _ _ => rfl, ?_⟩; go_big_quiet_on)))
      iterate 1 (first | go_big_quiet_skip | (go_big_quiet_want; go_big_quiet_op; first | go_big_quiet_on | (refine ⟨_, fun _ _ _ _ => rfl, ?_⟩; go_big_quiet_on)))
      iterate 4 (first | go_big_quiet_skip | (go_big_quiet_want; go_big_quiet_op; first | go_big_quiet_on | (refine ⟨_, fun _ _ _ _ => rfl, ?_⟩; go_big_quiet_on)))
      go_big_quiet_want
      go_big_quiet_op
      refine ⟨.int .i64 0, fun W d0 dl dK => ?_, ?_⟩
      · refine (d_room (H3.out.same dK)).mono ?_
        rintro e W' ⟨rfl, -, K⟩
        exact ⟨by rw [HRM.out]; rfl, (K.cell (a := ⟨w.heap.size, 1, none⟩) dl (fun h => h)).trans d0, Nat.lt_of_lt_of_le dl K.size, dK.trans K (fun _ _ h => h)⟩
      go_big_quiet_on
      iterate 2 (first | go_big_quiet_skip | (go_big_quiet_want; go_big_quiet_op; first | go_big_quiet_on | (refine ⟨_, fun _ _ _ _ => rfl, ?_⟩; go_big_quiet_on)))
      go_big_quiet_want
      go_big_quiet_op
      refine ⟨.bool true, fun W d0 dl dK => ?_, ?_⟩
      · refine (HWK3.out W dK).mono ?_
        rintro e W' ⟨rfl, K⟩
        exact ⟨rfl, (K.cell (a := ⟨w.heap.size, 1, none⟩) dl (fun h => h)).trans d0, Nat.lt_of_lt_of_le dl K.size, dK.trans K (fun _ _ h => h)⟩
      go_big_quiet_on
      iterate 3 (first | go_big_quiet_skip | (go_big_quiet_want; go_big_quiet_op; first | go_big_quiet_on | (refine ⟨_, fun _ _ _ _ => rfl, ?_⟩; go_big_quiet_on)))
      refine wpQuiet_nil ?_
      intro w9 ⟨_, _, K9⟩
      go_wp2_with fail
      go_ret
      exact ⟨rfl, HKQ.out.trans (H3.out.kept0.trans K9 (fun _ _ h => h)) (fun _ _ h => h)⟩
    · injection h2' with e1 e2
      injection e2 with e2 e3
      exact absurd e3 her
end Go.Proofs.YtjlcchjcppkbjaaDoor

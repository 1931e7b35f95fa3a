/- WhFiCan: texts for the statements of this seat: contracts of functions, walks, plain laws. Conditions: none. -/
import Derived.Test.YtjlcchjcppkbjaaDoorWhFs
set_option linter.all false
/- An arm of the switch of WheelFires. -/
namespace Go.Proofs.YtjlcchjcppkbjaaDoor
open Go.RowKit
set_option maxRecDepth 100000 in
set_option maxHeartbeats 2000000 in
theorem fi_can {w w1 wA : World} {X : Wh} {inn : List Tm} {x : Sp} {B bx k nn c10 : Nat} {p10 : Option Addr} {y0 y2 y3 y4 y5 y6 y9 y11 y13 y14 y15 y16 y17 y18 y19 y20 y21 y22 y23 y24 y25 y26 y27 y28 y29 y30 y31 y32 y33 y34 y35 y36 y37 y38 y39 y40 y41 y42 y43 y44 y45 y46 y47 y48 y49 y50 y51 y52 y53 y54 y55 y56 y57 y58 y59 y60 y61 y63 y64 y65 y66 y67 y68 y69 y70 y71 y72 y73 y74 y75 y76 y77 y78 y79 y80 y81 y82 y83 y84 y85 y86 y87 y88 y89 y90 y91 y92 y93 y94 y95 y96 y97 y98 y99 y100 y101 y102 y103 y104 y105 y106 y107 y108 y109 y110 y111 y112 y113 y114 y115 y116 y117 y118 y119 y120 y121 y122 y123 y124 y125 y126 y127 y128 y129 y130 y131 y132 y133 y134 y135 y136 y137 y138 y139 y140 y141 y142 y143 y144 y145 y146 y147 y148 y149 y150 y151 y152 y153 y154 y155 y156 y157 y158 y159 y160 y161 y162 y163 y164 y165 y166 y167 y168 y169 y170 y171 y172 y173 y174 y175 y176 y177 y178 y179 y180 y181 y182 y183 y184 y185 y186 y187 y188 y189 y190 y191 y192 y193 y194 y195 y196 y197 y198 y199 y200 y201 y202 y203 y204 y205 y206 y207 y208 y209 y210 y211 y212 y213 y214 y215 y216 y217 y218 y219 y220 y221 y222 y223 y224 y225 y226 y227 y228 y229 y230 y231 y232 y233 y234 y235 y236 y237 : Value}
    (HX : Hid (X.a.sl.length = nn ∧ X.seq ≤ k ∧ inn.length ≤ k ∧ Acc X inn)) (HB0 : Hid (BoxS bx x wA)) (H0 : Hid (Wl w wA (fun b => (Value.slice p10 inn.length c10).ownBlock = some b ∨ b = bx) B X)) (HO0 : Hid (OwnT wA w1.heap.size (.slice p10 inn.length c10) inn)) (HZ0 : Hid (w1.heap.size ≤ wA.heap.size)) (HW1 : Hid (w.heap.size ≤ w1.heap.size)) (HWX : Hid x.wf) (hn100 : nn ≤ 100) (hin40 : inn.length ≤ 80) (hinl : inn.length ≤ k) (hk80 : k < 80) (q0 : (x.d == 0) = false) (q1 : (x.d == 1) = true)
    (J K' : Act → World → Prop) (Qr : Exit → Act → World → Prop) (hJ : ∀ a' w', (∃ z1 z6 z10 z13 z14 z15 z16 z17 z18 z19 z20 z21 z22 z23 z51 z52 z53 z54 z55 z56 z57 z58 z59 z60 z61 z62 z63 z64 z65 z66 z67 z68 z69 z70 z71 z72 z73 z74 z75 z76 z77 z78 z79 z80 z81 z82 z83 z84 z85 z86 z87 z88 z89 z90 z91 z92 z93 z94 z95 z96 z97 z98 z99 z100 z101 z102 z103 z104 z105 z106 z107 z108 z109 z110 z111 z112 z113 z114 z115 z116 z117 z118 z119 z120 z121 z122 z123 z124 z125 z126 z127 z128 z129 z130 z131 z132 z133 z134 z135 z136 z137 z138 z139 z140 z141 z142 z143 z144 z145 z146 z147 z148 z149 z150 z151 z152 z153 z154 z155 z156 z157 z158 z159 z160 z161 z162 z163 z164 z165 z166 z167 z168 z169 z170 z171 z172 z173 z174 z175 z176 z177 z178 z179 z180 z181 z182 z183 z184 z185 z186 z187 z188 z189 z190 z191 z192 z193 z194 z195 z196 z197 z198 z199 z200 z201 z202 z203 z204 z205 z206 z207 z208 z209 z210 z211 z212 z213 z214 z215 z216 z217 z218 z219 z220 z221 z222 z223 z224 z225 z226 z227 z228 z229 z230 z231 z232 z233 z234 z235 z236 : Value, (∃ (X2 : Wh) (inn2 : List Tm), z1 = .int .i64 X2.now ∧ (X2.a.sl.length = nn ∧ X2.seq ≤ (k + 1 : Nat) ∧ inn2.length ≤ k + 1 ∧ Acc X2 inn2) ∧ OwnT w' w1.heap.size z10 inn2 ∧ w1.heap.size ≤ w'.heap.size ∧ Wl w w' (fun b => z10.ownBlock = some b) B X2) ∧ a' = ⟨#[y0, z1, y2, y3, y4, y5, z6, .int .i64 nn, .pointer (some ⟨B, 0, none⟩), y9, z10, y11, .pointer (some ⟨bx, 0, none⟩), z13, z14, z15, z16, z17, z18, z19, z20, z21, z22, z23, y24, y25, y26, y27, y28, y29, y30, y31, y32, y33, y34, y35, y36, y37, y38, y39, y40, y41, y42, y43, y44, y45, y46, y47, y48, y49, y50, z51, z52, z53, z54, z55, z56, z57, z58, z59, z60, z61, z62, z63, z64, z65, z66, z67, z68, z69, z70, z71, z72, z73, z74, z75, z76, z77, z78, z79, z80, z81, z82, z83, z84, z85, z86, z87, z88, z89, z90, z91, z92, z93, z94, z95, z96, z97, z98, z99, z100, z101, z102, z103, z104, z105, z106, z107, z108, z109, z110, z111, z112, z113, z114, z115, z116, z117, z118, z119, z120, z121, z122, z123, z124, z125, z126, z127, z128, z129, z130, z131, z132, z133, z134, z135, z136, z137, z138, z139, z140, z141, z142, z143, z144, z145, z146, z147, z148, z149, z150, z151, z152, z153, z154, z155, z156, z157, z158, z159, z160, z161, z162, z163, z164, z165, z166, z167, z168, z169, z170, z171, z172, z173, z174, z175, z176, z177, z178, z179, z180, z181, z182, z183, z184, z185, z186, z187, z188, z189, z190, z191, z192, z193, z194, z195, z196, z197, z198, z199, z200, z201, z202, z203, z204, z205, z206, z207, z208, z209, z210, z211, z212, z213, z214, z215, z216, z217, z218, z219, z220, z221, z222, z223, z224, z225, z226, z227, z228, z229, z230, z231, z232, z233, z234, z235, z236, y237], []⟩) → J a' w') (hM : ∀ a' w', Met J a' w' → K' a' w') :
    Code.wp Tryd.prog (pR (pL (pR (pL (pL (pR (pL (pL (pR (pL (pR (pR (pR (pR (pR (pR (Tryd.f4.body.getD .skip))))))))))))))))) (Exit.then K' Qr) ⟨#[y0, .int .i64 X.now, y2, y3, y4, y5, y6, .int .i64 nn, .pointer (some ⟨B, 0, none⟩), y9, .slice p10 inn.length c10, y11, .pointer (some ⟨bx, 0, none⟩), y13, y14, y15, y16, y17, y18, y19, y20, y21, y22, y23, y24, y25, y26, y27, y28, y29, y30, y31, y32, y33, y34, y35, y36, y37, y38, y39, y40, y41, y42, y43, y44, y45, y46, y47, y48, y49, y50, y51, y52, y53, y54, y55, y56, y57, y58, y59, y60, y61, .int .i64 x.d, y63, y64, y65, y66, y67, y68, y69, y70, y71, y72, y73, y74, y75, y76, y77, y78, y79, y80, y81, y82, y83, y84, y85, y86, y87, y88, y89, y90, y91, y92, y93, y94, y95, y96, y97, y98, y99, y100, y101, y102, y103, y104, y105, y106, y107, y108, y109, y110, y111, y112, y113, y114, y115, y116, y117, y118, y119, y120, y121, y122, y123, y124, y125, y126, y127, y128, y129, y130, y131, y132, y133, y134, y135, y136, y137, y138, y139, y140, y141, y142, y143, y144, y145, y146, y147, y148, y149, y150, y151, y152, y153, y154, y155, y156, y157, y158, y159, y160, y161, y162, y163, y164, y165, y166, y167, y168, y169, y170, y171, y172, y173, y174, y175, y176, y177, y178, y179, y180, y181, y182, y183, y184, y185, y186, y187, y188, y189, y190, y191, y192, y193, y194, y195, y196, y197, y198, y199, y200, y201, y202, y203, y204, y205, y206, y207, y208, y209, y210, y211, y212, y213, y214, y215, y216, y217, y218, y219, y220, y221, y222, y223, y224, y225, y226, y227, y228, y229, y230, y231, y232, y233, y234, y235, y236, y237], []⟩ wA := by
  dsimp only [Tryd.f4, pL, pR, Option.getD]
  have HJ := Lib.hid hJ
  have HM := Lib.hid hM
  clear hJ hM
  have HSQ : Hid (X.seq ≤ 1000000000) := Lib.hid (by have := HX.out.2.1; omega)
  have hacc2 := Lib.hid HX.out.2.2.2
  have hlen := hacc2.out.len
  have hrm := H0.out.ok.room HSQ.out
  have hnow := H0.out.ok.now
  have HOKK := Lib.hid H0.out.ok
  have HLOX := Lib.hid HW1.out
  have f0 := HB0.out.c0
  have f1 := HB0.out.c1
  have f2 := HB0.out.c2
  have f3 := HB0.out.c3
  have f5 := HB0.out.lt
  try dsimp only
  go_wp2_with fail
  clear f0 f1 f2 f3 f5 q0 q1
  have f3 := HB0.out.c3
  have f5 := HB0.out.lt
  go_loopw [17, 18] (fun s17 s18 wr2 => ∃ (i : Nat) (o : Option Nat), i ≤ inn.length ∧ s18 = .int .i64 i ∧ s17 = .int .i64 (bestV o) ∧ HasH x.h inn i o ∧ Kept (fun _ => False) wA wr2) (fun _ s18 _ => inn.length - (intOf s18).toNat)
  case atStart => exact ⟨0, none, Nat.zero_le _, rfl, rfl, (fun j t h => by omega), Kept.refl _ _⟩
  case round =>
    obtain ⟨i, o, hi, rfl, rfl, hh, K⟩ := hrel
    have HH := Lib.hid hh
    have HK := Lib.hid K
    clear f3 f5
    have f3 := (HB0.out.same K).c3
    have f5 := (HB0.out.same K).lt
    clear hh K
    by_cases hli : i < inn.length
    · obtain ⟨t, ht⟩ : ∃ t, inn[i]? = some t := ⟨_, List.getElem?_eq_getElem hli⟩
      obtain ⟨b0, off0, c0', hv, ⟨-, -, a2⟩, bl, -⟩ := tm_at (HO0.out.rows.same HK.out) ht
      injection hv with hv hvn hc
      clear hvn
      subst hv hc
      have i1 : (0 : Int) ≤ (i : Int) := by omega
      have i2 : (i : Int) < (inn.length : Int) := by omega
      have hnx := HH.out.next ht
      by_cases hth : t.h = x.h
      · have i3 : (t.h == x.h) = true := by simpa using hth
        have HN := Lib.hid (hnx.1 hth)
        clear ht hnx hth HH
        try dsimp only
        go_wp2_with fail
        go_quiet (fail)
        try dsimp only
        go_wp2_with fail
        go_roundw
        case rel => exact ⟨i + 1, some i, by omega, by go_num, rfl, HN.out, HK.out.drewN nq⟩
        case measure => simp [intOf]; omega
      · have i3 : (t.h == x.h) = false := by simpa using hth
        have HN := Lib.hid (hnx.2 hth)
        clear ht hnx hth HH
        try dsimp only
        go_wp2_with fail
        go_quiet (fail)
        try dsimp only
        go_wp2_with fail
        go_roundw
        case rel => exact ⟨i + 1, o, by omega, by go_num, rfl, HN.out, HK.out.drewN nq⟩
        case measure => simp [intOf]; omega
    · obtain rfl : i = inn.length := by omega
      have H1' := Lib.hid (H0.out.same HK.out)
      have HO1 := Lib.hid (HO0.out.same HK.out)
      have HB1 := Lib.hid (HB0.out.same HK.out)
      have HZ1 := Lib.hid (Nat.le_trans HZ0.out HK.out.size)
      clear hli hi H0 HO0 HB0 HZ0 HK
      cases o with
      | none =>
        have HC : Hid (X.cancel x.h = (X, 5)) := Lib.hid (cancel_none fun t ht => by
          obtain ⟨j, hj⟩ := List.getElem?_of_mem (hacc2.out.perm.mem_iff.1 ht)
          exact HH.out j t (List.getElem?_eq_some_iff.1 hj).1 hj)
        clear HH
        show Code.wp _ _ _ _ _
        simp only [bestV]
        try dsimp only
        go_wp2_with fail
        refine (l_cancel H1'.out HWX.out.2.2.2.1 HWX.out.2.2.2.2 HC.out).mono ?_
        rintro e w5 ⟨rfl, h, K⟩
        have HW2 : Hid (Wl w w5 (fun b => (Value.slice p10 inn.length c10).ownBlock = some b) B X) := Lib.hid (h.mono fun b q => .inl q)
        have HO2 := Lib.hid (HO1.out.kept K (fun b _ q s => s (.inl q)))
        have HZ2 := Lib.hid (Nat.le_trans HZ1.out K.size)
        have HX2 : Hid (X.a.sl.length = nn ∧ X.seq ≤ (k + 1 : Nat) ∧ inn.length ≤ k + 1 ∧ Acc X inn) := Lib.hid (by
          have := HX.out
          exact ⟨this.1, by have := this.2.1; omega, by have := this.2.2.1; omega, this.2.2.2⟩)
        clear h K H1' HO1 HZ1 HX f3 f5 HB1
        try dsimp only
        go_wp2_with fail
        show K' _ _
        refine HM.out _ _ (Met.intro (HJ.out _ _ ?_))
        (repeat apply Exists.intro)
        exact ⟨⟨X, inn, rfl, HX2.out, HO2.out, HZ2.out, HW2.out⟩, rfl⟩
      | some b =>
        obtain ⟨hbi, z, hz, hzh⟩ := HH.out
        have hzl : z ∈ X.l := hacc2.out.perm.mem_iff.2 (List.mem_of_getElem? hz)
        have hc := cancel_some hzl hzh
        have hF := (HOKK.out.cancel hzl).2
        rw [hzh] at hF
        obtain ⟨X2, hX2⟩ : ∃ X2 : Wh, ({ X with a := (X.a.free x.h).1, l := X.l.filter fun x' => decide (x'.h ≠ x.h) } : Wh) = X2 := ⟨_, rfl⟩
        rw [hX2] at hc
        have n2 : X2.now = X.now := by rw [← hX2]
        obtain ⟨L2, hL2⟩ : ∃ L2, inn.take b ++ inn.drop (b + 1) = L2 := ⟨_, rfl⟩
        have hcut : (inn.filter fun x' => decide (x'.h ≠ x.h)) = L2 := by
          have := filter_cut (hacc2.out.nodup HOKK.out) hz
          rw [hzh] at this
          rw [this, hL2]
        have hl2 : L2.length + 1 = inn.length := by rw [← hL2, List.length_append, List.length_take, List.length_drop]; omega
        have HX2 : Hid (X2.a.sl.length = nn ∧ X2.seq ≤ (k + 1 : Nat) ∧ L2.length ≤ k + 1 ∧ Acc X2 L2) := Lib.hid (by
          have h1 := HX.out
          have ha := h1.2.2.2.cancel (W' := X2) (hd := x.h) (by rw [← hX2])
          rw [hcut] at ha
          exact ⟨by rw [← hX2]; exact hF.size.trans h1.1, by rw [← hX2]; have := h1.2.1; simp only; omega, by have := h1.2.2.1; omega, ha⟩)
        have HC := Lib.hid hc
        have HL2 := Lib.hid hL2
        obtain ⟨b0, off0, c0', hv, -, bl, hcap⟩ := tm_at HO1.out.rows hz
        injection hv with hv hvn hc0
        clear hvn
        subst hv hc0
        have i3 : (0 : Int) ≤ (b : Int) := by omega
        have i4 : (b : Int) < (inn.length : Int) := by omega
        have i5 : decide ((0 : Int) ≤ (b : Int)) = true := by simp only [decide_eq_true_eq]; omega
        have i6 : (b : Int) + 1 ≤ (inn.length : Int) := by omega
        have i7 : (b : Int) + 1 ≤ (c10 : Int) := by omega
        have i8 : (b : Int) ≤ (c10 : Int) := by omega
        have i9 : (inn.length : Int) ≤ (c10 : Int) := by omega
        have i10 : ((b : Int) + 1).toNat = b + 1 := by omega
        have i11 : IntKind.i64.wrap ((b : Int) + 1) = (b : Int) + 1 := IntWalk.i64_in _ (by omega)
        have i13 : (0 : Int) ≤ (b : Int) + 1 := by omega
        have HLT : Hid ((inn.take b).length = b ∧ (inn.drop (b + 1)).length = inn.length - (b + 1)) := Lib.hid ⟨by rw [List.length_take]; omega, List.length_drop⟩
        have HZ : Hid (b + (inn.length - (b + 1)) ≤ 1000000 ∧ b + (inn.length - (b + 1)) = L2.length ∧ b ≤ 1000000) := Lib.hid (by omega)
        have hbl2 : b ≤ inn.length := by omega
        have hbl3 : b + 1 ≤ inn.length := by omega
        clear HH hz hzh hzl hc hF hX2 hL2 hcut bl
        show Code.wp _ _ _ _ _
        simp only [bestV]
        rw [← n2]
        clear n2
        try dsimp only
        go_wp2_with fail
        refine (l_cancel H1'.out HWX.out.2.2.2.1 HWX.out.2.2.2.2 HC.out).mono ?_
        rintro e w5 ⟨rfl, h, K⟩
        have H5 : Hid (Wl w w5 (fun _ => False) B X2) := Lib.hid (h.mono fun b q => q.elim)
        have HO5 := Lib.hid (HO1.out.kept K (fun b _ q s => s (.inl q)))
        have HZ5 := Lib.hid (Nat.le_trans HZ1.out K.size)
        have hrw := HO5.out.rows
        have HTK : Hid (∀ V, Kept (fun _ => False) w5 V → Rows tmC 3 V (.slice (some ⟨b0, off0, none⟩) b c10) (inn.take b)) := Lib.hid fun V K => (hrw.same K).take hbl2
        have HDR : Hid (∀ V, Kept (fun _ => False) w5 V → Rows tmC 3 V (.slice (some ⟨b0, off0 + (b + 1) * 3, none⟩) (inn.length - (b + 1)) (c10 - (b + 1))) (inn.drop (b + 1))) := Lib.hid fun V K => (hrw.same K).drop hbl3
        clear h K H1' HO1 HZ1 HX f3 f5 HB1 HO5 hrw
        by_cases hcb : c10 = b + 1
        · have hlb : inn.length = b + 1 := by omega
          have HDR0 : Hid (∀ V, Rows tmC 3 V (.slice (some ⟨b0, off0, none⟩) 0 0) (inn.drop (b + 1))) := Lib.hid fun V => .inl ⟨_, _, rfl, by rw [← hlb]; exact List.drop_length⟩
          subst hcb
          rw [hlb]
          have i14 : (b : Int) ≤ (b : Int) + 1 := by omega
          try dsimp only
          go_wp2_with fail
          refine wp_region_noPanic ?_
          go_region_law (first | (refine step_rows rfl (.tmp 169) (.tmp 173) rfl el28 tmC_len tmC_one w1.heap.size _ _ b _ (inn.drop (b + 1)) rfl rfl (ownsRow_kept HW6.out (by repeat (first | exact Kept.refl _ _ | refine Kept.drew ?_)) (fun _ _ _ h => h)) (HDR0.out _) (by rw [HLT.out.2]; exact HZ.out.1) (by decide) (Nat.le_trans HZ5.out (HK6.out.1.trans (by repeat (first | exact Kept.refl _ _ | refine Kept.drew ?_)) (fun _ _ h => h)).size) ?_; intro v7 w7 hown7 K7 hb7; have HW7 := Lib.hid hown7; have HK7 := Lib.hid (after_own HK6.out.1 HK6.out.2 (by repeat (first | exact Kept.refl _ _ | refine Kept.drew ?_)) K7 hb7); clear hown7 K7 hb7) | (refine step_rows rfl (.tmp 165) (.tmp 168) rfl el28 tmC_len tmC_one w1.heap.size _ _ 0 [] (inn.take b) rfl rfl (he0 HZ5.out _ _ _ (by repeat (first | exact Kept.refl _ _ | refine Kept.drew ?_)) (by repeat (first | exact Kept.refl _ _ | refine Kept.drew ?_)) (by simp)).1.1 (HTK.out _ (he0 HZ5.out _ _ _ (by repeat (first | exact Kept.refl _ _ | refine Kept.drew ?_)) (by repeat (first | exact Kept.refl _ _ | refine Kept.drew ?_)) rfl).1.2.2) (by rw [HLT.out.1, Nat.zero_add]; exact HZ.out.2.2) (by decide) (he0 HZ5.out _ _ _ (by repeat (first | exact Kept.refl _ _ | refine Kept.drew ?_)) (by repeat (first | exact Kept.refl _ _ | refine Kept.drew ?_)) rfl).1.2.1 ?_; intro v6 w6 hown6 K6 hb6; have HK6 := Lib.hid ((he0 HZ5.out _ _ _ (by repeat (first | exact Kept.refl _ _ | refine Kept.drew ?_)) (by repeat (first | exact Kept.refl _ _ | refine Kept.drew ?_)) (by simp)).2 v6 w6 K6 hb6); rw [HLT.out.1, Nat.zero_add] at hown6; have HW6 := Lib.hid hown6; clear hown6 K6 hb6))
          refine NoPanic.normal ?_
          have HO2 : Hid (OwnT w7 w1.heap.size v7 L2) := Lib.hid (by
            have h1 := HW7.out
            rw [HLT.out.2, HZ.out.2.1] at h1
            unfold OwnT
            rw [← HL2.out, cellsL_append, HL2.out]
            exact h1)
          have HW2 : Hid (Wl w w7 (fun b => v7.ownBlock = some b) B X2) := Lib.hid (H5.out.fresh HK7.out.1 (fun b q => ⟨(ownsRow_block HO2.out q).2, .inr (HK7.out.2 b q)⟩))
          have HZ2 : Hid (w1.heap.size ≤ w7.heap.size) := Lib.hid (Nat.le_trans HZ5.out HK7.out.1.size)
          obtain ⟨p7, c7, rfl⟩ := HO2.out.sl
          clear H5 HK7 HW7 HTK HDR
          try dsimp only
          go_wp2_with fail
          show K' _ _
          refine HM.out _ _ (Met.intro (HJ.out _ _ ?_))
          (repeat apply Exists.intro)
          exact ⟨⟨X2, L2, rfl, HX2.out, HO2.out, HZ2.out, HW2.out⟩, rfl⟩
        · try dsimp only
          try dsimp only
          go_wp2_with fail
          refine wp_region_noPanic ?_
          go_region_law (first | (refine step_rows rfl (.tmp 169) (.tmp 173) rfl el28 tmC_len tmC_one w1.heap.size _ _ b _ (inn.drop (b + 1)) rfl rfl (ownsRow_kept HW6.out (by repeat (first | exact Kept.refl _ _ | refine Kept.drew ?_)) (fun _ _ _ h => h)) (HDR.out _ (HK6.out.1.trans (by repeat (first | exact Kept.refl _ _ | refine Kept.drew ?_)) (fun _ _ h => h))) (by rw [HLT.out.2]; exact HZ.out.1) (by decide) (Nat.le_trans HZ5.out (HK6.out.1.trans (by repeat (first | exact Kept.refl _ _ | refine Kept.drew ?_)) (fun _ _ h => h)).size) ?_; intro v7 w7 hown7 K7 hb7; have HW7 := Lib.hid hown7; have HK7 := Lib.hid (after_own HK6.out.1 HK6.out.2 (by repeat (first | exact Kept.refl _ _ | refine Kept.drew ?_)) K7 hb7); clear hown7 K7 hb7) | (refine step_rows rfl (.tmp 165) (.tmp 168) rfl el28 tmC_len tmC_one w1.heap.size _ _ 0 [] (inn.take b) rfl rfl (he0 HZ5.out _ _ _ (by repeat (first | exact Kept.refl _ _ | refine Kept.drew ?_)) (by repeat (first | exact Kept.refl _ _ | refine Kept.drew ?_)) (by simp)).1.1 (HTK.out _ (he0 HZ5.out _ _ _ (by repeat (first | exact Kept.refl _ _ | refine Kept.drew ?_)) (by repeat (first | exact Kept.refl _ _ | refine Kept.drew ?_)) rfl).1.2.2) (by rw [HLT.out.1, Nat.zero_add]; exact HZ.out.2.2) (by decide) (he0 HZ5.out _ _ _ (by repeat (first | exact Kept.refl _ _ | refine Kept.drew ?_)) (by repeat (first | exact Kept.refl _ _ | refine Kept.drew ?_)) rfl).1.2.1 ?_; intro v6 w6 hown6 K6 hb6; have HK6 := Lib.hid ((he0 HZ5.out _ _ _ (by repeat (first | exact Kept.refl _ _ | refine Kept.drew ?_)) (by repeat (first | exact Kept.refl _ _ | refine Kept.drew ?_)) (by simp)).2 v6 w6 K6 hb6); rw [HLT.out.1, Nat.zero_add] at hown6; have HW6 := Lib.hid hown6; clear hown6 K6 hb6))
          refine NoPanic.normal ?_
          have HO2 : Hid (OwnT w7 w1.heap.size v7 L2) := Lib.hid (by
            have h1 := HW7.out
            rw [HLT.out.2, HZ.out.2.1] at h1
            unfold OwnT
            rw [← HL2.out, cellsL_append, HL2.out]
            exact h1)
          have HW2 : Hid (Wl w w7 (fun b => v7.ownBlock = some b) B X2) := Lib.hid (H5.out.fresh HK7.out.1 (fun b q => ⟨(ownsRow_block HO2.out q).2, .inr (HK7.out.2 b q)⟩))
          have HZ2 : Hid (w1.heap.size ≤ w7.heap.size) := Lib.hid (Nat.le_trans HZ5.out HK7.out.1.size)
          obtain ⟨p7, c7, rfl⟩ := HO2.out.sl
          clear H5 HK7 HW7 HTK HDR
          try dsimp only
          go_wp2_with fail
          show K' _ _
          refine HM.out _ _ (Met.intro (HJ.out _ _ ?_))
          (repeat apply Exists.intro)
          exact ⟨⟨X2, L2, rfl, HX2.out, HO2.out, HZ2.out, HW2.out⟩, rfl⟩
end Go.Proofs.YtjlcchjcppkbjaaDoor

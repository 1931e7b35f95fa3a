/- WhFiAdv: texts for the statements of this seat: contracts of functions, walks, plain laws. Conditions: none. -/
import Derived.Test.YtjlcchjcppkbjaaDoorWhFs
set_option linter.all false
/- An arm of the switch of WheelFires. -/
namespace Go.Proofs.YtjlcchjcppkbjaaDoor
open Go.RowKit
set_option maxRecDepth 100000 in
set_option maxHeartbeats 2000000 in
theorem fi_adv {w w1 wA : World} {X : Wh} {inn : List Tm} {x : Sp} {B bx k nn c10 : Nat} {p10 : Option Addr} {y0 y2 y3 y4 y5 y6 y9 y11 y13 y14 y15 y16 y17 y18 y19 y20 y21 y22 y23 y24 y25 y26 y27 y28 y29 y30 y31 y32 y33 y34 y35 y36 y37 y38 y39 y40 y41 y42 y43 y44 y45 y46 y47 y48 y49 y50 y51 y52 y53 y54 y55 y56 y57 y58 y59 y60 y61 y63 y64 y65 y66 y67 y68 y69 y70 y71 y72 y73 y74 y75 y76 y77 y78 y79 y80 y81 y82 y83 y84 y85 y86 y87 y88 y89 y90 y91 y92 y93 y94 y95 y96 y97 y98 y99 y100 y101 y102 y103 y104 y105 y106 y107 y108 y109 y110 y111 y112 y113 y114 y115 y116 y117 y118 y119 y120 y121 y122 y123 y124 y125 y126 y127 y128 y129 y130 y131 y132 y133 y134 y135 y136 y137 y138 y139 y140 y141 y142 y143 y144 y145 y146 y147 y148 y149 y150 y151 y152 y153 y154 y155 y156 y157 y158 y159 y160 y161 y162 y163 y164 y165 y166 y167 y168 y169 y170 y171 y172 y173 y174 y175 y176 y177 y178 y179 y180 y181 y182 y183 y184 y185 y186 y187 y188 y189 y190 y191 y192 y193 y194 y195 y196 y197 y198 y199 y200 y201 y202 y203 y204 y205 y206 y207 y208 y209 y210 y211 y212 y213 y214 y215 y216 y217 y218 y219 y220 y221 y222 y223 y224 y225 y226 y227 y228 y229 y230 y231 y232 y233 y234 y235 y236 y237 : Value}
    (HX : Hid (X.a.sl.length = nn ∧ X.seq ≤ k ∧ inn.length ≤ k ∧ Acc X inn)) (HB0 : Hid (BoxS bx x wA)) (H0 : Hid (Wl w wA (fun b => (Value.slice p10 inn.length c10).ownBlock = some b ∨ b = bx) B X)) (HO0 : Hid (OwnT wA w1.heap.size (.slice p10 inn.length c10) inn)) (HZ0 : Hid (w1.heap.size ≤ wA.heap.size)) (HW1 : Hid (w.heap.size ≤ w1.heap.size)) (HWX : Hid x.wf) (hn100 : nn ≤ 100) (hin40 : inn.length ≤ 80) (hinl : inn.length ≤ k) (hk80 : k < 80) (q0 : (x.d == 0) = false) (q1 : (x.d == 1) = false) (q2 : (x.d == 2) = true) (c1 : ¬ x.at_ < X.now) (c2 : ¬ NEVER < x.at_)
    (J K' : Act → World → Prop) (Qr : Exit → Act → World → Prop) (hJ : ∀ a' w', (∃ z1 z6 z10 z13 z14 z15 z16 z17 z18 z19 z20 z21 z22 z23 z51 z52 z53 z54 z55 z56 z57 z58 z59 z60 z61 z62 z63 z64 z65 z66 z67 z68 z69 z70 z71 z72 z73 z74 z75 z76 z77 z78 z79 z80 z81 z82 z83 z84 z85 z86 z87 z88 z89 z90 z91 z92 z93 z94 z95 z96 z97 z98 z99 z100 z101 z102 z103 z104 z105 z106 z107 z108 z109 z110 z111 z112 z113 z114 z115 z116 z117 z118 z119 z120 z121 z122 z123 z124 z125 z126 z127 z128 z129 z130 z131 z132 z133 z134 z135 z136 z137 z138 z139 z140 z141 z142 z143 z144 z145 z146 z147 z148 z149 z150 z151 z152 z153 z154 z155 z156 z157 z158 z159 z160 z161 z162 z163 z164 z165 z166 z167 z168 z169 z170 z171 z172 z173 z174 z175 z176 z177 z178 z179 z180 z181 z182 z183 z184 z185 z186 z187 z188 z189 z190 z191 z192 z193 z194 z195 z196 z197 z198 z199 z200 z201 z202 z203 z204 z205 z206 z207 z208 z209 z210 z211 z212 z213 z214 z215 z216 z217 z218 z219 z220 z221 z222 z223 z224 z225 z226 z227 z228 z229 z230 z231 z232 z233 z234 z235 z236 : Value, (∃ (X2 : Wh) (inn2 : List Tm), z1 = .int .i64 X2.now ∧ (X2.a.sl.length = nn ∧ X2.seq ≤ (k + 1 : Nat) ∧ inn2.length ≤ k + 1 ∧ Acc X2 inn2) ∧ OwnT w' w1.heap.size z10 inn2 ∧ w1.heap.size ≤ w'.heap.size ∧ Wl w w' (fun b => z10.ownBlock = some b) B X2) ∧ a' = ⟨#[y0, z1, y2, y3, y4, y5, z6, .int .i64 nn, .pointer (some ⟨B, 0, none⟩), y9, z10, y11, .pointer (some ⟨bx, 0, none⟩), z13, z14, z15, z16, z17, z18, z19, z20, z21, z22, z23, y24, y25, y26, y27, y28, y29, y30, y31, y32, y33, y34, y35, y36, y37, y38, y39, y40, y41, y42, y43, y44, y45, y46, y47, y48, y49, y50, z51, z52, z53, z54, z55, z56, z57, z58, z59, z60, z61, z62, z63, z64, z65, z66, z67, z68, z69, z70, z71, z72, z73, z74, z75, z76, z77, z78, z79, z80, z81, z82, z83, z84, z85, z86, z87, z88, z89, z90, z91, z92, z93, z94, z95, z96, z97, z98, z99, z100, z101, z102, z103, z104, z105, z106, z107, z108, z109, z110, z111, z112, z113, z114, z115, z116, z117, z118, z119, z120, z121, z122, z123, z124, z125, z126, z127, z128, z129, z130, z131, z132, z133, z134, z135, z136, z137, z138, z139, z140, z141, z142, z143, z144, z145, z146, z147, z148, z149, z150, z151, z152, z153, z154, z155, z156, z157, z158, z159, z160, z161, z162, z163, z164, z165, z166, z167, z168, z169, z170, z171, z172, z173, z174, z175, z176, z177, z178, z179, z180, z181, z182, z183, z184, z185, z186, z187, z188, z189, z190, z191, z192, z193, z194, z195, z196, z197, z198, z199, z200, z201, z202, z203, z204, z205, z206, z207, z208, z209, z210, z211, z212, z213, z214, z215, z216, z217, z218, z219, z220, z221, z222, z223, z224, z225, z226, z227, z228, z229, z230, z231, z232, z233, z234, z235, z236, y237], []⟩) → J a' w') (hM : ∀ a' w', Met J a' w' → K' a' w') :
    Code.wp Tryd.prog (pR (pL (pR (pL (pL (pR (pL (pL (pR (pL (pR (pR (pR (pR (pR (pR (Tryd.f4.body.getD .skip))))))))))))))))) (Exit.then K' Qr) ⟨#[y0, .int .i64 X.now, y2, y3, y4, y5, y6, .int .i64 nn, .pointer (some ⟨B, 0, none⟩), y9, .slice p10 inn.length c10, y11, .pointer (some ⟨bx, 0, none⟩), y13, y14, y15, y16, y17, y18, y19, y20, y21, y22, y23, y24, y25, y26, y27, y28, y29, y30, y31, y32, y33, y34, y35, y36, y37, y38, y39, y40, y41, y42, y43, y44, y45, y46, y47, y48, y49, y50, y51, y52, y53, y54, y55, y56, y57, y58, y59, y60, y61, .int .i64 x.d, y63, y64, y65, y66, y67, y68, y69, y70, y71, y72, y73, y74, y75, y76, y77, y78, y79, y80, y81, y82, y83, y84, y85, y86, y87, y88, y89, y90, y91, y92, y93, y94, y95, y96, y97, y98, y99, y100, y101, y102, y103, y104, y105, y106, y107, y108, y109, y110, y111, y112, y113, y114, y115, y116, y117, y118, y119, y120, y121, y122, y123, y124, y125, y126, y127, y128, y129, y130, y131, y132, y133, y134, y135, y136, y137, y138, y139, y140, y141, y142, y143, y144, y145, y146, y147, y148, y149, y150, y151, y152, y153, y154, y155, y156, y157, y158, y159, y160, y161, y162, y163, y164, y165, y166, y167, y168, y169, y170, y171, y172, y173, y174, y175, y176, y177, y178, y179, y180, y181, y182, y183, y184, y185, y186, y187, y188, y189, y190, y191, y192, y193, y194, y195, y196, y197, y198, y199, y200, y201, y202, y203, y204, y205, y206, y207, y208, y209, y210, y211, y212, y213, y214, y215, y216, y217, y218, y219, y220, y221, y222, y223, y224, y225, y226, y227, y228, y229, y230, y231, y232, y233, y234, y235, y236, y237], []⟩ wA := by
  dsimp only [Tryd.f4, pL, pR, Option.getD]
  have HJ := Lib.hid hJ
  have HM := Lib.hid hM
  clear hJ hM
  have HSQ : Hid (X.seq ≤ 1000000000) := Lib.hid (by have := HX.out.2.1; omega)
  have hacc2 := Lib.hid HX.out.2.2.2
  have hlen := hacc2.out.len
  have hrm := H0.out.ok.room HSQ.out
  have hnow := H0.out.ok.now
  have HOKK := Lib.hid H0.out.ok
  have HLOX := Lib.hid HW1.out
  have f0 := HB0.out.c0
  have f1 := HB0.out.c1
  have f2 := HB0.out.c2
  have f3 := HB0.out.c3
  have f5 := HB0.out.lt
  have hN : NEVER = 4611686018427387904 := rfl
  try dsimp only
  go_wp2_with fail
  clear f0 f1 f2 f3 f5 q0 q1 q2
  have hnn0 := HOKK.out.now
  have hadv := @advance_ok X x.at_ (by omega) hnn0.1 (by omega)
  obtain ⟨X2, hX2⟩ : ∃ X2 : Wh, ({ X with now := x.at_, a := freeAll X.a (due x.at_ X.l), l := rest x.at_ X.l } : Wh) = X2 := ⟨_, rfl⟩
  rw [hX2] at hadv
  have n2 : X2.now = x.at_ := by rw [← hX2]
  obtain ⟨inn2, hin2⟩ : ∃ inn2, (inn.filter fun t => decide (x.at_ < t.at_)) = inn2 := ⟨_, rfl⟩
  have HX2 : Hid (X2.a.sl.length = nn ∧ X2.seq ≤ (k + 1 : Nat) ∧ inn2.length ≤ k + 1 ∧ Acc X2 inn2) := Lib.hid (by
    have h1 := HX.out
    have ha := h1.2.2.2.adv HOKK.out (W' := X2) (lim := x.at_) (by rw [← hX2])
    rw [hin2] at ha
    have hle : inn2.length ≤ inn.length := by rw [← hin2]; exact List.length_filter_le _ _
    exact ⟨by rw [← hX2]; exact (freeAll_size _ _).trans h1.1, by rw [← hX2]; have := h1.2.1; simp only; omega, by have := h1.2.2.1; omega, ha⟩)
  have HSRT := Lib.hid HOKK.out.sorted
  have HDL : Hid (((due x.at_ X.l).map Tm.fd).length ≤ 1000000 ∧ inn.length ≤ 1000) := Lib.hid ⟨by
    rw [List.length_map]
    have h1 := due_len x.at_ X.l
    omega, by omega⟩
  have r1 : decide (x.at_ < X.now) = false := by simpa using c1
  have r2 : decide (4611686018427387904 < x.at_) = false := by simpa using c2
  have HADV := Lib.hid hadv
  clear hadv hX2 c1 c2 hnn0
  refine (l_advance H0.out HADV.out).mono ?_
  rintro e w3 ⟨v3, rfl, ho, h, K⟩
  obtain ⟨p3, c3, rfl⟩ := ho.sl
  rw [List.length_map] at ho h ⊢
  have HOR3 := Lib.hid ho.rows
  have H3 := Lib.hid h
  have HO3 := Lib.hid (HO0.out.kept K (fun b _ q s => s (.inl q)))
  have HB3 := Lib.hid (HB0.out.kept K (fun s => s (.inr rfl)))
  have HZ3 := Lib.hid (Nat.le_trans HZ0.out K.size)
  clear ho h K H0 HO0 HB0 HZ0 HX
  have f1 := HB3.out.c1
  have f5 := HB3.out.lt
  try dsimp only
  go_wp2_with fail
  refine (due_c HSRT.out hacc2.out.perm hacc2.out.sq HO3.out HDL.out.2 HZ3.out x.at_).mono ?_
  rintro e w6 ⟨v6, v7, rfl, ho6, ho7, -, hfr, K⟩
  rw [hin2] at ho7
  have H6 := Lib.hid (Wl.fresh (G := fun b => v7.ownBlock = some b) H3.out K (fun b q => ⟨(ownsRow_block ho7 q).2, (hfr b q).elim (fun q => .inl (.inl (.inl q))) .inr⟩))
  obtain ⟨p6, c6, rfl⟩ := ho6.sl
  obtain ⟨p7', c7', rfl⟩ := ho7.sl
  rw [List.length_map] at ho6 ⊢
  have HOR6 := Lib.hid ho6.rows
  have HO7 := Lib.hid ho7
  have HOR3' := Lib.hid (HOR3.out.same K)
  have HZ6 := Lib.hid (Nat.le_trans HZ3.out K.size)
  clear ho6 ho7 hfr K H3 HO3 HZ3 HOR3 f1 f5 HB3
  try dsimp only
  go_wp2_with fail
  refine (same_t HOR3'.out HOR6.out HDL.out.1).mono ?_
  rintro e w8 ⟨rfl, K⟩
  have HW2 := Lib.hid (H6.out.same K)
  have HO2 := Lib.hid (HO7.out.same K)
  have HZ2 := Lib.hid (Nat.le_trans HZ6.out K.size)
  clear K H6 HO7 HZ6 HOR3' HOR6
  rw [← n2]
  clear n2
  try dsimp only
  go_wp2_with fail
  show K' _ _
  refine HM.out _ _ (Met.intro (HJ.out _ _ ?_))
  (repeat apply Exists.intro)
  exact ⟨⟨X2, inn2, rfl, HX2.out, HO2.out, HZ2.out, HW2.out⟩, rfl⟩
end Go.Proofs.YtjlcchjcppkbjaaDoor

/- WhFiAdd: texts for the statements of this seat: contracts of functions, walks, plain laws. Conditions: none. -/
import Derived.Test.YtjlcchjcppkbjaaDoorWhFs
set_option linter.all false
/- An arm of the switch of WheelFires. -/
namespace Go.Proofs.YtjlcchjcppkbjaaDoor
open Go.RowKit
set_option maxRecDepth 100000 in
set_option maxHeartbeats 2000000 in
theorem fi_add {w w1 wA : World} {X : Wh} {inn : List Tm} {x : Sp} {B bx k nn c10 : Nat} {p10 : Option Addr} {y0 y2 y3 y4 y5 y6 y9 y11 y13 y14 y15 y16 y17 y18 y19 y20 y21 y22 y23 y24 y25 y26 y27 y28 y29 y30 y31 y32 y33 y34 y35 y36 y37 y38 y39 y40 y41 y42 y43 y44 y45 y46 y47 y48 y49 y50 y51 y52 y53 y54 y55 y56 y57 y58 y59 y60 y61 y63 y64 y65 y66 y67 y68 y69 y70 y71 y72 y73 y74 y75 y76 y77 y78 y79 y80 y81 y82 y83 y84 y85 y86 y87 y88 y89 y90 y91 y92 y93 y94 y95 y96 y97 y98 y99 y100 y101 y102 y103 y104 y105 y106 y107 y108 y109 y110 y111 y112 y113 y114 y115 y116 y117 y118 y119 y120 y121 y122 y123 y124 y125 y126 y127 y128 y129 y130 y131 y132 y133 y134 y135 y136 y137 y138 y139 y140 y141 y142 y143 y144 y145 y146 y147 y148 y149 y150 y151 y152 y153 y154 y155 y156 y157 y158 y159 y160 y161 y162 y163 y164 y165 y166 y167 y168 y169 y170 y171 y172 y173 y174 y175 y176 y177 y178 y179 y180 y181 y182 y183 y184 y185 y186 y187 y188 y189 y190 y191 y192 y193 y194 y195 y196 y197 y198 y199 y200 y201 y202 y203 y204 y205 y206 y207 y208 y209 y210 y211 y212 y213 y214 y215 y216 y217 y218 y219 y220 y221 y222 y223 y224 y225 y226 y227 y228 y229 y230 y231 y232 y233 y234 y235 y236 y237 : Value}
    (HX : Hid (X.a.sl.length = nn ∧ X.seq ≤ k ∧ inn.length ≤ k ∧ Acc X inn)) (HB0 : Hid (BoxS bx x wA)) (H0 : Hid (Wl w wA (fun b => (Value.slice p10 inn.length c10).ownBlock = some b ∨ b = bx) B X)) (HO0 : Hid (OwnT wA w1.heap.size (.slice p10 inn.length c10) inn)) (HZ0 : Hid (w1.heap.size ≤ wA.heap.size)) (HW1 : Hid (w.heap.size ≤ w1.heap.size)) (HWX : Hid x.wf) (hn100 : nn ≤ 100) (hin40 : inn.length ≤ 80) (hinl : inn.length ≤ k) (hk80 : k < 80) (q0 : (x.d == 0) = true)
    (J K' : Act → World → Prop) (Qr : Exit → Act → World → Prop) (hJ : ∀ a' w', (∃ z1 z6 z10 z13 z14 z15 z16 z17 z18 z19 z20 z21 z22 z23 z51 z52 z53 z54 z55 z56 z57 z58 z59 z60 z61 z62 z63 z64 z65 z66 z67 z68 z69 z70 z71 z72 z73 z74 z75 z76 z77 z78 z79 z80 z81 z82 z83 z84 z85 z86 z87 z88 z89 z90 z91 z92 z93 z94 z95 z96 z97 z98 z99 z100 z101 z102 z103 z104 z105 z106 z107 z108 z109 z110 z111 z112 z113 z114 z115 z116 z117 z118 z119 z120 z121 z122 z123 z124 z125 z126 z127 z128 z129 z130 z131 z132 z133 z134 z135 z136 z137 z138 z139 z140 z141 z142 z143 z144 z145 z146 z147 z148 z149 z150 z151 z152 z153 z154 z155 z156 z157 z158 z159 z160 z161 z162 z163 z164 z165 z166 z167 z168 z169 z170 z171 z172 z173 z174 z175 z176 z177 z178 z179 z180 z181 z182 z183 z184 z185 z186 z187 z188 z189 z190 z191 z192 z193 z194 z195 z196 z197 z198 z199 z200 z201 z202 z203 z204 z205 z206 z207 z208 z209 z210 z211 z212 z213 z214 z215 z216 z217 z218 z219 z220 z221 z222 z223 z224 z225 z226 z227 z228 z229 z230 z231 z232 z233 z234 z235 z236 : Value, (∃ (X2 : Wh) (inn2 : List Tm), z1 = .int .i64 X2.now ∧ (X2.a.sl.length = nn ∧ X2.seq ≤ (k + 1 : Nat) ∧ inn2.length ≤ k + 1 ∧ Acc X2 inn2) ∧ OwnT w' w1.heap.size z10 inn2 ∧ w1.heap.size ≤ w'.heap.size ∧ Wl w w' (fun b => z10.ownBlock = some b) B X2) ∧ a' = ⟨#[y0, z1, y2, y3, y4, y5, z6, .int .i64 nn, .pointer (some ⟨B, 0, none⟩), y9, z10, y11, .pointer (some ⟨bx, 0, none⟩), z13, z14, z15, z16, z17, z18, z19, z20, z21, z22, z23, y24, y25, y26, y27, y28, y29, y30, y31, y32, y33, y34, y35, y36, y37, y38, y39, y40, y41, y42, y43, y44, y45, y46, y47, y48, y49, y50, z51, z52, z53, z54, z55, z56, z57, z58, z59, z60, z61, z62, z63, z64, z65, z66, z67, z68, z69, z70, z71, z72, z73, z74, z75, z76, z77, z78, z79, z80, z81, z82, z83, z84, z85, z86, z87, z88, z89, z90, z91, z92, z93, z94, z95, z96, z97, z98, z99, z100, z101, z102, z103, z104, z105, z106, z107, z108, z109, z110, z111, z112, z113, z114, z115, z116, z117, z118, z119, z120, z121, z122, z123, z124, z125, z126, z127, z128, z129, z130, z131, z132, z133, z134, z135, z136, z137, z138, z139, z140, z141, z142, z143, z144, z145, z146, z147, z148, z149, z150, z151, z152, z153, z154, z155, z156, z157, z158, z159, z160, z161, z162, z163, z164, z165, z166, z167, z168, z169, z170, z171, z172, z173, z174, z175, z176, z177, z178, z179, z180, z181, z182, z183, z184, z185, z186, z187, z188, z189, z190, z191, z192, z193, z194, z195, z196, z197, z198, z199, z200, z201, z202, z203, z204, z205, z206, z207, z208, z209, z210, z211, z212, z213, z214, z215, z216, z217, z218, z219, z220, z221, z222, z223, z224, z225, z226, z227, z228, z229, z230, z231, z232, z233, z234, z235, z236, y237], []⟩) → J a' w') (hM : ∀ a' w', Met J a' w' → K' a' w') :
    Code.wp Tryd.prog (pR (pL (pR (pL (pL (pR (pL (pL (pR (pL (pR (pR (pR (pR (pR (pR (Tryd.f4.body.getD .skip))))))))))))))))) (Exit.then K' Qr) ⟨#[y0, .int .i64 X.now, y2, y3, y4, y5, y6, .int .i64 nn, .pointer (some ⟨B, 0, none⟩), y9, .slice p10 inn.length c10, y11, .pointer (some ⟨bx, 0, none⟩), y13, y14, y15, y16, y17, y18, y19, y20, y21, y22, y23, y24, y25, y26, y27, y28, y29, y30, y31, y32, y33, y34, y35, y36, y37, y38, y39, y40, y41, y42, y43, y44, y45, y46, y47, y48, y49, y50, y51, y52, y53, y54, y55, y56, y57, y58, y59, y60, y61, .int .i64 x.d, y63, y64, y65, y66, y67, y68, y69, y70, y71, y72, y73, y74, y75, y76, y77, y78, y79, y80, y81, y82, y83, y84, y85, y86, y87, y88, y89, y90, y91, y92, y93, y94, y95, y96, y97, y98, y99, y100, y101, y102, y103, y104, y105, y106, y107, y108, y109, y110, y111, y112, y113, y114, y115, y116, y117, y118, y119, y120, y121, y122, y123, y124, y125, y126, y127, y128, y129, y130, y131, y132, y133, y134, y135, y136, y137, y138, y139, y140, y141, y142, y143, y144, y145, y146, y147, y148, y149, y150, y151, y152, y153, y154, y155, y156, y157, y158, y159, y160, y161, y162, y163, y164, y165, y166, y167, y168, y169, y170, y171, y172, y173, y174, y175, y176, y177, y178, y179, y180, y181, y182, y183, y184, y185, y186, y187, y188, y189, y190, y191, y192, y193, y194, y195, y196, y197, y198, y199, y200, y201, y202, y203, y204, y205, y206, y207, y208, y209, y210, y211, y212, y213, y214, y215, y216, y217, y218, y219, y220, y221, y222, y223, y224, y225, y226, y227, y228, y229, y230, y231, y232, y233, y234, y235, y236, y237], []⟩ wA := by
  dsimp only [Tryd.f4, pL, pR, Option.getD]
  have HJ := Lib.hid hJ
  have HM := Lib.hid hM
  clear hJ hM
  have HSQ : Hid (X.seq ≤ 1000000000) := Lib.hid (by have := HX.out.2.1; omega)
  have hacc2 := Lib.hid HX.out.2.2.2
  have hlen := hacc2.out.len
  have hrm := H0.out.ok.room HSQ.out
  have hnow := H0.out.ok.now
  have HOKK := Lib.hid H0.out.ok
  have HLOX := Lib.hid HW1.out
  have f0 := HB0.out.c0
  have f1 := HB0.out.c1
  have f2 := HB0.out.c2
  have f3 := HB0.out.c3
  have f5 := HB0.out.lt
  try dsimp only
  go_wp2_with fail
  clear f0 f1 f2 f3 f5 q0
  have hN : NEVER = 4611686018427387904 := rfl
  have hfour := add_four HOKK.out HSQ.out x.at_ x.id
  rw [hN] at hfour
  have hnow2 := HOKK.out.now
  rw [hN] at hnow2
  have hsl := HX.out.1
  by_cases c1 : x.at_ ≤ X.now
  · obtain ⟨er, hadd, her⟩ : ∃ er, X.add x.at_ x.id = (X, 0, er) ∧ er ≠ 0 := by
      rcases hfour with ⟨-, h⟩ | ⟨-, -, -, h⟩ | ⟨h, -⟩ | ⟨h, -⟩
      · exact ⟨2, h, by decide⟩
      · exact ⟨8, h, by decide⟩
      · omega
      · omega
    have r1 : decide (X.now < x.at_) = false := by simp only [decide_eq_false_iff_not]; omega
    have HADD := Lib.hid hadd
    have e1 : (er == 0) = false := by simpa using her
    have e2 : (er != 0) = true := by simpa using her
    clear hfour hadd her hsl
    refine (l_add H0.out HSQ.out HADD.out).mono ?_
    rintro e w3 ⟨rfl, h, K⟩
    have H3 := Lib.hid h
    have HO3 := Lib.hid (HO0.out.kept K (fun b _ q s => s (.inl q)))
    have HB3 := Lib.hid (HB0.out.kept K (fun s => s (.inr rfl)))
    have HZ3 := Lib.hid (Nat.le_trans HZ0.out K.size)
    clear h K H0 HO0 HB0 HZ0
    have f1 := HB3.out.c1
    have f5 := HB3.out.lt
    try dsimp only
    go_wp2_with fail
    go_loopw [16] (fun s16 wr2 => ∃ i : Nat, i ≤ inn.length ∧ s16 = .int .i64 i ∧ wr2 = w3) (fun s16 _ => inn.length - (intOf s16).toNat)
    case atStart => exact ⟨0, Nat.zero_le _, rfl, rfl⟩
    case round =>
      obtain ⟨i, hi, rfl, rfl⟩ := hrel
      by_cases hli : i < inn.length
      · have i1 : (0 : Int) ≤ (i : Int) := by omega
        have i2 : (i : Int) < (inn.length : Int) := by omega
        try dsimp only
        go_wp2_with fail
        go_roundw
        case rel => exact ⟨i + 1, by omega, by go_num, trivial⟩
        case measure => simp [intOf]; omega
      · obtain rfl : i = inn.length := by omega
        have HW2 : Hid (Wl w wr (fun b => (Value.slice p10 inn.length c10).ownBlock = some b) B X) := Lib.hid (H3.out.mono fun b q => .inl q)
        have HO2 := HO3
        have HZ2 := HZ3
        have HX2 : Hid (X.a.sl.length = nn ∧ X.seq ≤ (k + 1 : Nat) ∧ inn.length ≤ k + 1 ∧ Acc X inn) := Lib.hid (by
          have := HX.out
          exact ⟨this.1, by have := this.2.1; omega, by have := this.2.2.1; omega, this.2.2.2⟩)
        clear hli hi f1 f5 HX H3 HO3 HZ3
        try dsimp only
        go_wp2_with fail
        show K' _ _
        refine HM.out _ _ (Met.intro (HJ.out _ _ ?_))
        (repeat apply Exists.intro)
        exact ⟨⟨X, inn, rfl, HX2.out, HO2.out, HZ2.out, HW2.out⟩, rfl⟩
  by_cases c2 : 4611686018427387904 < x.at_
  · obtain ⟨er, hadd, her⟩ : ∃ er, X.add x.at_ x.id = (X, 0, er) ∧ er ≠ 0 := by
      rcases hfour with ⟨-, h⟩ | ⟨-, h, -⟩ | ⟨-, h, -⟩ | ⟨-, h, -⟩
      · exact ⟨2, h, by decide⟩
      all_goals omega
    have r1 : decide (X.now < x.at_) = true := by simp only [decide_eq_true_eq]; omega
    have r2 : decide (x.at_ ≤ 4611686018427387904) = false := by simp only [decide_eq_false_iff_not]; omega
    have HADD := Lib.hid hadd
    have e1 : (er == 0) = false := by simpa using her
    have e2 : (er != 0) = true := by simpa using her
    clear hfour hadd her hsl
    refine (l_add H0.out HSQ.out HADD.out).mono ?_
    rintro e w3 ⟨rfl, h, K⟩
    have H3 := Lib.hid h
    have HO3 := Lib.hid (HO0.out.kept K (fun b _ q s => s (.inl q)))
    have HB3 := Lib.hid (HB0.out.kept K (fun s => s (.inr rfl)))
    have HZ3 := Lib.hid (Nat.le_trans HZ0.out K.size)
    clear h K H0 HO0 HB0 HZ0
    have f1 := HB3.out.c1
    have f5 := HB3.out.lt
    try dsimp only
    go_wp2_with fail
    go_loopw [16] (fun s16 wr2 => ∃ i : Nat, i ≤ inn.length ∧ s16 = .int .i64 i ∧ wr2 = w3) (fun s16 _ => inn.length - (intOf s16).toNat)
    case atStart => exact ⟨0, Nat.zero_le _, rfl, rfl⟩
    case round =>
      obtain ⟨i, hi, rfl, rfl⟩ := hrel
      by_cases hli : i < inn.length
      · have i1 : (0 : Int) ≤ (i : Int) := by omega
        have i2 : (i : Int) < (inn.length : Int) := by omega
        try dsimp only
        go_wp2_with fail
        go_roundw
        case rel => exact ⟨i + 1, by omega, by go_num, trivial⟩
        case measure => simp [intOf]; omega
      · obtain rfl : i = inn.length := by omega
        have HW2 : Hid (Wl w wr (fun b => (Value.slice p10 inn.length c10).ownBlock = some b) B X) := Lib.hid (H3.out.mono fun b q => .inl q)
        have HO2 := HO3
        have HZ2 := HZ3
        have HX2 : Hid (X.a.sl.length = nn ∧ X.seq ≤ (k + 1 : Nat) ∧ inn.length ≤ k + 1 ∧ Acc X inn) := Lib.hid (by
          have := HX.out
          exact ⟨this.1, by have := this.2.1; omega, by have := this.2.2.1; omega, this.2.2.2⟩)
        clear hli hi f1 f5 HX H3 HO3 HZ3
        try dsimp only
        go_wp2_with fail
        show K' _ _
        refine HM.out _ _ (Met.intro (HJ.out _ _ ?_))
        (repeat apply Exists.intro)
        exact ⟨⟨X, inn, rfl, HX2.out, HO2.out, HZ2.out, HW2.out⟩, rfl⟩
  have r1 : decide (X.now < x.at_) = true := by simp only [decide_eq_true_eq]; omega
  have r2 : decide (x.at_ ≤ 4611686018427387904) = true := by simp only [decide_eq_true_eq]; omega
  rcases hfour with ⟨h, -⟩ | ⟨-, -, h, -⟩ | ⟨-, -, hfull, hadd⟩ | ⟨-, -, hroom, X2, hd, hadd, okX2, n2, s2, l2, hne, P, -⟩
  · omega
  · omega
  · have r3 : decide (inn.length < nn) = false := by simp only [decide_eq_false_iff_not]; omega
    have HADD := Lib.hid hadd
    clear hadd hsl hfull
    refine (l_add H0.out HSQ.out HADD.out).mono ?_
    rintro e w3 ⟨rfl, h, K⟩
    have H3 := Lib.hid h
    have HO3 := Lib.hid (HO0.out.kept K (fun b _ q s => s (.inl q)))
    have HB3 := Lib.hid (HB0.out.kept K (fun s => s (.inr rfl)))
    have HZ3 := Lib.hid (Nat.le_trans HZ0.out K.size)
    clear h K H0 HO0 HB0 HZ0
    have f1 := HB3.out.c1
    have f5 := HB3.out.lt
    try dsimp only
    go_wp2_with fail
    go_loopw [16] (fun s16 wr2 => ∃ i : Nat, i ≤ inn.length ∧ s16 = .int .i64 i ∧ wr2 = w3) (fun s16 _ => inn.length - (intOf s16).toNat)
    case atStart => exact ⟨0, Nat.zero_le _, rfl, rfl⟩
    case round =>
      obtain ⟨i, hi, rfl, rfl⟩ := hrel
      by_cases hli : i < inn.length
      · have i1 : (0 : Int) ≤ (i : Int) := by omega
        have i2 : (i : Int) < (inn.length : Int) := by omega
        try dsimp only
        go_wp2_with fail
        go_roundw
        case rel => exact ⟨i + 1, by omega, by go_num, trivial⟩
        case measure => simp [intOf]; omega
      · obtain rfl : i = inn.length := by omega
        have HW2 : Hid (Wl w wr (fun b => (Value.slice p10 inn.length c10).ownBlock = some b) B X) := Lib.hid (H3.out.mono fun b q => .inl q)
        have HO2 := HO3
        have HZ2 := HZ3
        have HX2 : Hid (X.a.sl.length = nn ∧ X.seq ≤ (k + 1 : Nat) ∧ inn.length ≤ k + 1 ∧ Acc X inn) := Lib.hid (by
          have := HX.out
          exact ⟨this.1, by have := this.2.1; omega, by have := this.2.2.1; omega, this.2.2.2⟩)
        clear hli hi f1 f5 HX H3 HO3 HZ3
        try dsimp only
        go_wp2_with fail
        show K' _ _
        refine HM.out _ _ (Met.intro (HJ.out _ _ ?_))
        (repeat apply Exists.intro)
        exact ⟨⟨X, inn, rfl, HX2.out, HO2.out, HZ2.out, HW2.out⟩, rfl⟩
  · have r3 : decide (inn.length < nn) = true := by simp only [decide_eq_true_eq]; omega
    have HADD := Lib.hid hadd
    have HNE : Hid (∀ t ∈ inn, t.h ≠ hd) := Lib.hid fun t ht => hne t (hacc2.out.perm.mem_iff.2 ht)
    have HOK : Hid (X2.a.sl.length = X.a.sl.length ∧ X2.seq = X.seq + 1 ∧ X2.l = ins ⟨x.at_, x.id, hd, X.seq + 1⟩ X.l) := Lib.hid ⟨P.size, s2, l2⟩
    rw [← n2] at r1 ⊢
    clear hadd hsl hroom okX2 n2 s2 l2 hne P
    refine (l_add H0.out HSQ.out HADD.out).mono ?_
    rintro e w3 ⟨rfl, h, K⟩
    have H3 := Lib.hid h
    have HO3 := Lib.hid (HO0.out.kept K (fun b _ q s => s (.inl q)))
    have HB3 := Lib.hid (HB0.out.kept K (fun s => s (.inr rfl)))
    have HZ3 := Lib.hid (Nat.le_trans HZ0.out K.size)
    clear h K H0 HO0 HB0 HZ0
    have f1 := HB3.out.c1
    have f2 := HB3.out.c2
    have f5 := HB3.out.lt
    try dsimp only
    go_wp2_with fail
    go_loopw [16] (fun s16 wr2 => ∃ i : Nat, i ≤ inn.length ∧ s16 = .int .i64 i ∧ wr2 = w3) (fun s16 _ => inn.length - (intOf s16).toNat)
    case atStart => exact ⟨0, Nat.zero_le _, rfl, rfl⟩
    case round =>
      obtain ⟨i, hi, rfl, rfl⟩ := hrel
      by_cases hli : i < inn.length
      · obtain ⟨t, ht⟩ : ∃ t, inn[i]? = some t := ⟨_, List.getElem?_eq_getElem hli⟩
        obtain ⟨b0, off0, c0', hv, ⟨-, -, a2⟩, bl, -⟩ := tm_at HO3.out.rows ht
        injection hv with hv hvn hc
        clear hvn
        subst hv hc
        have i1 : (0 : Int) ≤ (i : Int) := by omega
        have i2 : (i : Int) < (inn.length : Int) := by omega
        have i3 : (t.h == hd) = false := by simpa using HNE.out t (List.mem_of_getElem? ht)
        clear ht
        try dsimp only
        go_wp2_with fail
        go_roundw
        case rel => exact ⟨i + 1, by omega, by go_num, trivial⟩
        case measure => simp [intOf]; omega
      · obtain rfl : i = inn.length := by omega
        clear hli hi
        have HLO : Hid (∀ b, (Value.slice p10 inn.length c10).ownBlock = some b → w.heap.size ≤ b) := Lib.hid fun b q => by
          have h1 := ownsRow_block HO3.out q
          have h2 := HLOX.out
          omega
        try dsimp only
        go_wp2_with (at_builtin; go_loud (refine wpList_appN el28 rfl (.tmp 120) (.tmp 127) rfl (news := [.int .i64 x.at_, .int .i64 x.id, .int .i64 hd]) w1.heap.size _ inn.length 1 (cellsL tmC inn) rfl HO3.out rfl rfl (by decide) (tmC_one ⟨x.at_, x.id, hd, 0⟩) (by unfold maxLen; omega) (by omega) HZ3.out ?_); intro g cap w5 hown5 K5 hor; have HZ2 := Lib.hid (Nat.le_trans HZ3.out K5.size); have HW2 := Lib.hid (Wl.grow (G := fun b => (Value.slice (some ⟨g, 0, none⟩) (inn.length + 1) cap).ownBlock = some b) H3.out K5 (fun b q => .inl q) (fun b hb q => by have := HLO.out b q; omega) (fun b q => by injection q with q; simp only at q; subst q; exact ⟨(ownsRow_block hown5 rfl).2, hor.imp .inl (fun h => h)⟩)); have HO5 := Lib.hid hown5; clear hown5 K5 hor)
        obtain ⟨inn2, hin2⟩ : ∃ inn2, inn ++ [⟨x.at_, x.id, hd, X.seq + 1⟩] = inn2 := ⟨_, rfl⟩
        have hil2 : inn.length + 1 = inn2.length := by rw [← hin2, List.length_append, List.length_singleton]
        have HO2 : Hid (OwnT w5 w1.heap.size (.slice (some ⟨g, 0, none⟩) inn2.length cap) inn2) := Lib.hid (by
          unfold OwnT
          rw [← hil2, ← hin2, cellsL_append, cellsL_one]
          exact HO5.out)
        have HX2 : Hid (X2.a.sl.length = nn ∧ X2.seq ≤ (k + 1 : Nat) ∧ inn2.length ≤ k + 1 ∧ Acc X2 inn2) := Lib.hid (by
          have h1 := HX.out
          refine ⟨HOK.out.1.trans h1.1, by rw [HOK.out.2.1]; have := h1.2.1; omega, by have := h1.2.2.1; omega, by rw [← hin2]; exact h1.2.2.2.add HOKK.out rfl HOK.out.2.2⟩)
        rw [hil2] at HW2 ⊢
        clear HX H3 HO3 HZ3 HO5 hil2 hin2
        try dsimp only
        go_wp2_with fail
        show K' _ _
        refine HM.out _ _ (Met.intro (HJ.out _ _ ?_))
        (repeat apply Exists.intro)
        exact ⟨⟨X2, inn2, rfl, HX2.out, HO2.out, HZ2.out, HW2.out⟩, rfl⟩
end Go.Proofs.YtjlcchjcppkbjaaDoor

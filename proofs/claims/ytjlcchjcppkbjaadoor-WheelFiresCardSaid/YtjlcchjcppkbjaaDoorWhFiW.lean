/- WhFiW: texts for the statements of this seat: contracts of functions, walks, plain laws. Conditions: none. -/
import Derived.Deep.CutBlock
import Derived.Deep.CutRange
import Derived.Test.YtjlcchjcppkbjaaDoorWhAcc
import Derived.Test.YtjlcchjcppkbjaaDoorWhTri
import Derived.Test.YtjlcchjcppkbjaaDoorWhFiAdd
import Derived.Test.YtjlcchjcppkbjaaDoorWhFiCan
import Derived.Test.YtjlcchjcppkbjaaDoorWhFiAdv
set_option linter.all false
/- WheelFires. -/
namespace Go.Proofs.YtjlcchjcppkbjaaDoor
open Go.RowKit
variable {w w' : World} {F : Nat → Prop}
set_option maxRecDepth 100000 in
set_option maxHeartbeats 2000000 in
theorem wheelFires_w {u : Value} {l : List Sp} (hT : Tab w) (size now : Int) (hz0 : 0 ≤ size) (hz1 : size ≤ 255) (hl : Rows spC 4 w u l) (hm : l.length ≤ maxLen) (hwf : ∀ x ∈ l, x.wf) : Calls Tryd.prog 4 #[.int .u8 size, .int .i64 now, u] w fun e w' => e = .returned (.bool true) ∧ Kept (fun _ => False) w w' := by
  have HWK := Lib.hid (works_c hT)
  obtain ⟨p, c, rfl⟩ := hl.len
  by_cases g1 : l.length > 80
  · have d1 : decide ((80 : Int) < (l.length : Int)) = true := by simp; omega
    clear hT hl hwf
    go_enter Tryd.func4, Tryd.ntmps4
    go_wp2_with (go_at_call 13; refine HWK.out.mono ?_; rintro e w' ⟨rfl, K⟩; have HK := Lib.hid K; clear K)
    go_ret
    exact ⟨rfl, HK.out⟩
  have d1 : decide ((80 : Int) < (l.length : Int)) = false := by simp; omega
  by_cases g2 : now < 0
  · clear hT hl hwf
    go_enter Tryd.func4, Tryd.ntmps4
    go_wp2_with (go_at_call 13; refine HWK.out.mono ?_; rintro e w' ⟨rfl, K⟩; have HK := Lib.hid K; clear K)
    go_ret
    exact ⟨rfl, HK.out⟩
  by_cases g3 : now > 4611686018427387904
  · clear hT hl hwf
    go_enter Tryd.func4, Tryd.ntmps4
    go_wp2_with (go_at_call 13; refine HWK.out.mono ?_; rintro e w' ⟨rfl, K⟩; have HK := Lib.hid K; clear K)
    go_ret
    exact ⟨rfl, HK.out⟩
  obtain ⟨nn, hnn⟩ : ∃ nn : Nat, size % 101 = (nn : Int) := ⟨(size % 101).toNat, by omega⟩
  have hn100 : nn ≤ 100 := by omega
  have HLS := Lib.hid hl
  have HWF := Lib.hid hwf
  have HNW := Lib.hid (l_new (F := fun _ => False) (n := nn) (now := now) hT (Kept.refl _ w) (fun _ h => h.elim) (by omega) (by omega) (by omega) (by omega))
  have hw101 : size.tmod 101 = (nn : Int) := by rw [Int.tmod_eq_emod_of_nonneg hz0]; exact hnn
  clear hT hl hwf
  go_enter Tryd.func4, Tryd.ntmps4
  go_wp2_with fail
  refine HNW.out.mono ?_
  rintro e w1 ⟨B, rfl, h, -⟩
  have H1 := Lib.hid h
  clear h
  go_wp2_with fail
  go_loopw [1, 10, 11] (fun s1 s10 s11 wr => ∃ (k : Nat) (X : Wh) (inn : List Tm), k ≤ l.length ∧ s11 = .int .i64 k ∧ s1 = .int .i64 X.now ∧ X.a.sl.length = nn ∧ X.seq ≤ k ∧ inn.length ≤ k ∧ Acc X inn ∧ OwnT wr w1.heap.size s10 inn ∧ w1.heap.size ≤ wr.heap.size ∧ Wl w wr (fun b => s10.ownBlock = some b) B X) (fun _ _ s11 _ => l.length - (intOf s11).toNat)
  case atStart => exact ⟨0, Wh.new nn now, [], Nat.zero_le _, rfl, rfl, by simp [Wh.new, AA.empty], Int.le_refl _, Nat.le_refl _, Acc.nil rfl, OwnT.nil _ _, Nat.le_refl _, H1.out.mono fun b q => by simp [Value.ownBlock] at q⟩
  case round =>
    obtain ⟨k, X, inn, hk, rfl, rfl, hsl, hsq, hinl, hacc, hown, hsz, hW⟩ := hrel
    have HX : Hid (X.a.sl.length = nn ∧ X.seq ≤ k ∧ inn.length ≤ k ∧ Acc X inn) := Lib.hid ⟨hsl, hsq, hinl, hacc⟩
    have HO := Lib.hid hown
    have HW := Lib.hid hW
    have HSZ := Lib.hid hsz
    obtain ⟨p10, c10, rfl⟩ := hown.sl
    have hlen := hacc.len
    have hrm := hW.ok.room (by omega)
    have hnow := hW.ok.now
    clear hsl hsq hacc hown hsz hW
    have hN : NEVER = 4611686018427387904 := rfl
    have hin40 : inn.length ≤ 80 := by omega
    by_cases hlt : k < l.length
    · obtain ⟨x, hx⟩ : ∃ x, l[k]? = some x := ⟨_, List.getElem?_eq_getElem hlt⟩
      obtain ⟨b, off, c', hv, ⟨a0, a1, a2, a3⟩, bl⟩ := sp_at HLS.out hx
      injection hv with hv hvn hc
      clear hvn
      subst hv hc
      have K := HW.out.kept0
      have f0 := (K.cell (a := ⟨b, off + k * 4, none⟩) bl (fun h => h)).trans a0
      have f1 := (K.cell (a := ⟨b, off + k * 4 + 1, none⟩) bl (fun h => h)).trans a1
      have f2 := (K.cell (a := ⟨b, off + k * 4 + 2, none⟩) bl (fun h => h)).trans a2
      have f3 := (K.cell (a := ⟨b, off + k * 4 + 3, none⟩) bl (fun h => h)).trans a3
      have blr := Nat.lt_of_lt_of_le bl K.size
      have j1 : (0 : Int) ≤ (k : Int) := by omega
      have j2 : (k : Int) < (l.length : Int) := by omega
      have HWX := Lib.hid (HWF.out x (List.mem_of_getElem? hx))
      clear a0 a1 a2 a3 K hx
      obtain ⟨bx, hbx⟩ : ∃ bx, wr.heap.size = bx := ⟨_, rfl⟩
      obtain ⟨wA, hwA⟩ : ∃ wA, wr.alloc (.cells #[.int .i64 x.d, .int .i64 x.at_, .int .i64 x.id, .int .i64 x.h] 45) = wA := ⟨_, rfl⟩
      have HB0 : Hid (BoxS bx x wA) := Lib.hid (by rw [← hwA, ← hbx]; exact BoxS.new _ _ _)
      have KA : Kept (fun _ => False) wr wA := by rw [← hwA]; exact (Kept.refl _ wr).alloc _
      have H0 : Hid (Wl w wA (fun b => (Value.slice p10 inn.length c10).ownBlock = some b ∨ b = bx) B X) := Lib.hid (HW.out.fresh KA (fun b q => by
        rcases q with q | q
        · exact ⟨Nat.lt_of_lt_of_le (ownsRow_block HO.out q).2 KA.size, .inl q⟩
        · subst q; rw [← hwA, ← hbx]; exact ⟨by simp, .inr (Nat.le_refl _)⟩))
      have HO0 := Lib.hid (HO.out.same KA)
      have HZ0 := Lib.hid (Nat.le_trans HSZ.out KA.size)
      have HBA := Lib.hid (And.intro hbx hwA)
      clear KA HO HSZ hbx hwA
      have hacc2 := Lib.hid HX.out.2.2.2
      have HSQ : Hid (X.seq ≤ 1000000000) := Lib.hid (by have := HX.out.2.1; omega)
      go_upto_block 2 with fail
      rw [HBA.out.2, HBA.out.1]
      clear f0 f1 f2 f3 blr
      go_cut [1, 10] from 51 to 236 (fun s1 s10 wz => ∃ (X2 : Wh) (inn2 : List Tm), s1 = .int .i64 X2.now ∧ (X2.a.sl.length = nn ∧ X2.seq ≤ (k + 1 : Nat) ∧ inn2.length ≤ k + 1 ∧ Acc X2 inn2) ∧ OwnT wz w1.heap.size s10 inn2 ∧ w1.heap.size ≤ wz.heap.size ∧ Wl w wz (fun b => s10.ownBlock = some b) B X2)
      case first =>
        rename_i J K1 hJ hM
        have HW1 : Hid (w.heap.size ≤ w1.heap.size) := Lib.hid H1.out.kept0.size
        by_cases hd0 : x.d = 0
        · exact fi_add HX HB0 H0 HO0 HZ0 HW1 HWX hn100 hin40 hinl (by omega) (by simpa using hd0) J K1 _ hJ hM
        · have q0 : (x.d == 0) = false := by simpa using hd0
          clear hd0
          by_cases hd1 : x.d = 1
          · exact fi_can HX HB0 H0 HO0 HZ0 HW1 HWX hn100 hin40 hinl (by omega) q0 (by simpa using hd1) J K1 _ hJ hM
          · have q1 : (x.d == 1) = false := by simpa using hd1
            clear hd1
            by_cases hd2 : x.d = 2
            · have q2 : (x.d == 2) = true := by simpa using hd2
              clear hd2
              by_cases hok : ¬ x.at_ < X.now ∧ ¬ NEVER < x.at_
              · exact fi_adv HX HB0 H0 HO0 HZ0 HW1 HWX hn100 hin40 hinl (by omega) q0 q1 q2 hok.1 hok.2 J K1 _ hJ hM
              have hok2 : x.at_ < X.now ∨ NEVER < x.at_ := by omega
              have f0 := HB0.out.c0
              have f1 := HB0.out.c1
              have f5 := HB0.out.lt
              clear hok
              go_wp2_with fail
              clear f0 f1 f5 q0 q1 q2
              by_cases c1 : x.at_ < X.now
              · obtain ⟨er, hadv, her⟩ : ∃ er, X.advance x.at_ = (X, [], er) ∧ er ≠ 0 := by
                  unfold Wh.advance
                  by_cases c3 : x.at_ < 0 ∨ NEVER < x.at_
                  · rw [if_pos c3]; exact ⟨2, rfl, by decide⟩
                  · rw [if_neg c3, if_pos c1]; exact ⟨8, rfl, by decide⟩
                have r1 : decide (x.at_ < X.now) = true := by simpa using c1
                have HADV := Lib.hid hadv
                have e1 : (er == 0) = false := by simpa using her
                have e2 : (er != 0) = true := by simpa using her
                clear hadv her c1
                refine (l_advance H0.out HADV.out).mono ?_
                rintro e w3 ⟨v3, rfl, ho, h, K⟩
                obtain ⟨p3, c3, rfl⟩ := ho.sl
                have H3 := Lib.hid h
                have HO3 := Lib.hid (HO0.out.kept K (fun b _ q s => s (.inl q)))
                have HB3 := Lib.hid (HB0.out.kept K (fun s => s (.inr rfl)))
                have HZ3 := Lib.hid (Nat.le_trans HZ0.out K.size)
                clear ho h K H0 HO0 HB0 HZ0
                have f1 := HB3.out.c1
                have f5 := HB3.out.lt
                go_wp2_with fail
                go_roundw
                case rel =>
                  have h1 := HX.out
                  exact ⟨k + 1, X, inn, by omega, by go_num, rfl, h1.1, by have := h1.2.1; omega, by have := h1.2.2.1; omega, h1.2.2.2, HO3.out, HZ3.out, H3.out.mono fun b q => .inl (.inl q)⟩
                case measure => simp [intOf]; omega
              by_cases c2 : NEVER < x.at_
              · obtain ⟨er, hadv, her⟩ : ∃ er, X.advance x.at_ = (X, [], er) ∧ er ≠ 0 := by
                  unfold Wh.advance
                  rw [if_pos (.inr c2)]; exact ⟨2, rfl, by decide⟩
                have r1 : decide (x.at_ < X.now) = false := by simpa using c1
                have r2 : decide (4611686018427387904 < x.at_) = true := by simpa using c2
                have HADV := Lib.hid hadv
                have e1 : (er == 0) = false := by simpa using her
                have e2 : (er != 0) = true := by simpa using her
                clear hadv her c1 c2
                refine (l_advance H0.out HADV.out).mono ?_
                rintro e w3 ⟨v3, rfl, ho, h, K⟩
                obtain ⟨p3, c3, rfl⟩ := ho.sl
                have H3 := Lib.hid h
                have HO3 := Lib.hid (HO0.out.kept K (fun b _ q s => s (.inl q)))
                have HB3 := Lib.hid (HB0.out.kept K (fun s => s (.inr rfl)))
                have HZ3 := Lib.hid (Nat.le_trans HZ0.out K.size)
                clear ho h K H0 HO0 HB0 HZ0
                have f1 := HB3.out.c1
                have f5 := HB3.out.lt
                go_wp2_with fail
                go_roundw
                case rel =>
                  have h1 := HX.out
                  exact ⟨k + 1, X, inn, by omega, by go_num, rfl, h1.1, by have := h1.2.1; omega, by have := h1.2.2.1; omega, h1.2.2.2, HO3.out, HZ3.out, H3.out.mono fun b q => .inl (.inl q)⟩
                case measure => simp [intOf]; omega
              omega
            · have q2 : (x.d == 2) = false := by simpa using hd2
              have f0 := HB0.out.c0
              have f1 := HB0.out.c1
              have f2 := HB0.out.c2
              have f3 := HB0.out.c3
              have f5 := HB0.out.lt
              clear hd2
              go_wp2_with fail
              clear f0 f1 f2 f3 f5 q0 q1 q2
              have HW2 : Hid (Wl w wA (fun b => (Value.slice p10 inn.length c10).ownBlock = some b) B X) := Lib.hid (H0.out.mono fun b q => .inl q)
              have HO2 := HO0
              have HZ2 := HZ0
              have HX2 : Hid (X.a.sl.length = nn ∧ X.seq ≤ (k + 1 : Nat) ∧ inn.length ≤ k + 1 ∧ Acc X inn) := Lib.hid (by
                have := HX.out
                exact ⟨this.1, by have := this.2.1; omega, by have := this.2.2.1; omega, this.2.2.2⟩)
              clear HX H0 HO0 HZ0
              go_wp2_with fail
              go_meet
              exact ⟨X, inn, rfl, HX2.out, HO2.out, HZ2.out, HW2.out⟩
      case rest =>
        obtain ⟨X2, inn2, rfl, hx2, ho2, hz2, hw2⟩ := hcut
        obtain ⟨p2, c2, rfl⟩ := ho2.sl
        have HX2 := Lib.hid hx2
        have HO2 := Lib.hid ho2
        have HZ2 := Lib.hid hz2
        have HW2 := Lib.hid hw2
        clear hx2 ho2 hz2 hw2 HX H0 HO0 HZ0 HB0
        have HLN := Lib.hid (l_len HW2.out)
        rw [HX2.out.2.2.2.len] at HLN
        have hrm2 : ((X2.a.room : Nat) : Int) = (nn : Int) - (inn2.length : Int) := by
          have h1 := HW2.out.ok.room (by have := HX2.out.2.1; omega)
          have h2 := HX2.out.1
          have h3 := HX2.out.2.2.2.len
          omega
        have HRMC := Lib.hid (l_room HW2.out)
        rw [hrm2] at HRMC
        have b1 : (inn2.length : Int) ≤ (nn : Int) := by omega
        have b2 : (0 : Int) ≤ (inn2.length : Int) := by omega
        have b3 : (nn : Int) ≤ 100 := by omega
        clear hrm2
        go_wp2_with (first | (go_at_call 21; refine (l_now HW2.out).mono ?_; rintro e w' ⟨rfl, hww⟩; obtain rfl := hww.symm) | (go_at_call 16; refine HLN.out.mono ?_; rintro e w' ⟨rfl, hww⟩; obtain rfl := hww.symm) | (go_at_call 22; refine HRMC.out.mono ?_; rintro e wy ⟨rfl, K⟩; have HWY := Lib.hid (HW2.out.same K); have HOY := Lib.hid (HO2.out.same K); have HZY := Lib.hid (Nat.le_trans HZ2.out K.size); clear K))
        go_roundw
        case rel => exact ⟨k + 1, X2, inn2, by omega, by go_num, rfl, HX2.out.1, HX2.out.2.1, HX2.out.2.2.1, HX2.out.2.2.2, HOY.out, HZY.out, HWY.out⟩
        case measure => simp [intOf]; omega
    · have HKW : Hid (Wl w wr (fun b => (Value.slice p10 inn.length c10).ownBlock = some b) B X) := HW
      obtain rfl : k = l.length := by omega
      clear hlt
      go_wp2_with (go_at_call 13; refine (works_c HW.out.tab).mono ?_; rintro e w4 ⟨rfl, K⟩; have HK4 := Lib.hid K; clear K)
      go_ret
      exact ⟨rfl, HW.out.kept0.trans HK4.out (fun _ _ h => h)⟩
end Go.Proofs.YtjlcchjcppkbjaaDoor

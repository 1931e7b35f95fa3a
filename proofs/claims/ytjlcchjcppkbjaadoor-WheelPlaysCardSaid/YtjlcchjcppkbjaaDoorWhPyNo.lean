/- WhPyNo: texts for the statements of this seat: contracts of functions, walks, plain laws. Conditions: none. -/
import Derived.Deep.CutBlock
import Derived.Deep.CutRange
import Derived.Deep.RegionHeld3
import Derived.Test.YtjlcchjcppkbjaaDoorWhDw
import Derived.Test.YtjlcchjcppkbjaaDoorWhDo
import Derived.Test.YtjlcchjcppkbjaaDoorWhFs
set_option linter.all false
/- WheelPlays. -/
namespace Go.Proofs.YtjlcchjcppkbjaaDoor
open Go.RowKit
variable {w w' : World}
set_option maxRecDepth 100000 in
set_option maxHeartbeats 2000000 in
theorem plays_no {v : Value} {l : List Sp} (hT : Tab w) (n : Int) (now : Int) (hno : (n < 0 ∨ 4096 < n) ∨ now < 0 ∨ 4611686018427387904 < now) (hn : -9223372036854775808 ≤ n ∧ n ≤ 9223372036854775807) (hl : Rows spC 4 w v l) (hm : l.length ≤ 80) (hwf : ∀ x ∈ l, x.wf) :
    Calls Tryd.prog 10 #[.int .i64 n, .int .i64 now, v] w fun e w' => e = .returned (.bool true) ∧ Kept (fun _ => False) w w' := by
  have HWK : Hid (∀ V, Kept (fun _ => False) w V → Calls Tryd.prog 13 #[] V fun e w' => e = .returned (.bool true) ∧ Kept (fun _ => False) V w') := Lib.hid fun V K => works_c (hT.kept K (fun h => h))
  obtain ⟨p, c, rfl⟩ := hl.len
  have d1 : decide ((80 : Int) < (l.length : Int)) = false := by simp; omega
  have HNW := Lib.hid (wnew_no n now w hno)
  have HDN : Hid (∀ V, Calls Tryd.prog 27 #[.int .i64 n, .int .i64 now] V fun e w' => e = .returned (.tuple #[.pointer none, .int .i64 2]) ∧ Kept (fun _ => False) V w') := Lib.hid fun V => dnew_no n now V hno hn
  have HLM := Lib.hid hl
  have HWF := Lib.hid hwf
  have HM := Lib.hid hm
  clear hT hl hwf hm hno hn
  go_enter Tryd.func10, Tryd.ntmps10
  go_wp2_with fail
  refine HNW.out.mono ?_
  rintro e w1 ⟨rfl, K1⟩
  have HK1 := Lib.hid K1
  clear K1
  go_wp2_with fail
  refine (HDN.out _).mono ?_
  rintro e w2 ⟨rfl, K2⟩
  have HK2 := Lib.hid (HK1.out.trans K2 (fun _ _ h => h))
  clear K2 HK1 HNW HDN
  go_wp2_with fail
  go_loopw [7, 9, 11] (fun s7 s9 s11 wr => ∃ k : Nat, k ≤ l.length ∧ s7 = .pointer none ∧ s9 = .pointer none ∧ s11 = .int .i64 k ∧ Kept (fun _ => False) w wr) (fun _ _ s11 _ => l.length - (intOf s11).toNat)
  case atStart => exact ⟨0, Nat.zero_le _, rfl, rfl, rfl, HK2.out⟩
  case round =>
    obtain ⟨k, hk, rfl, rfl, rfl, hW⟩ := hrel
    have HW := Lib.hid hW
    have HKM := Lib.hid (Nat.le_trans hk HM.out)
    clear hW HK2
    by_cases hlt : k < l.length
    · obtain ⟨x, hx⟩ : ∃ x, l[k]? = some x := ⟨_, List.getElem?_eq_getElem hlt⟩
      obtain ⟨b, off, c', hv, ⟨a0, a1, a2, a3⟩, bl⟩ := sp_at HLM.out hx
      injection hv with hv hvn hc
      clear hvn
      subst hv hc
      have K := HW.out
      have f0 := (K.cell (a := ⟨b, off + k * 4, none⟩) bl (fun h => h)).trans a0
      have f1 := (K.cell (a := ⟨b, off + k * 4 + 1, none⟩) bl (fun h => h)).trans a1
      have f2 := (K.cell (a := ⟨b, off + k * 4 + 2, none⟩) bl (fun h => h)).trans a2
      have f3 := (K.cell (a := ⟨b, off + k * 4 + 3, none⟩) bl (fun h => h)).trans a3
      have blr := Nat.lt_of_lt_of_le bl K.size
      have j1 : (0 : Int) ≤ (k : Int) := by omega
      have j2 : (k : Int) < (l.length : Int) := by omega
      have HWX := Lib.hid (HWF.out x (List.mem_of_getElem? hx))
      clear a0 a1 a2 a3 K hx
      go_upto_block 2 with fail
      obtain ⟨bx, hbx⟩ : ∃ bx, wr.heap.size = bx := ⟨_, rfl⟩
      obtain ⟨wA, hwA⟩ : ∃ wA, wr.alloc (.cells #[.int .i64 x.d, .int .i64 x.at_, .int .i64 x.id, .int .i64 x.h] 45) = wA := ⟨_, rfl⟩
      have HB0 : Hid (BoxS bx x wA) := Lib.hid (by rw [← hwA, ← hbx]; exact BoxS.new _ _ _)
      have HK : Hid (Kept (fun _ => False) w wA) := Lib.hid (by rw [← hwA]; exact HW.out.alloc _)
      rw [hwA, hbx]
      clear hwA hbx f0 f1 f2 f3 blr HW
      go_cut [7, 9] from 51 to 179 (fun s7 s9 wz => s7 = .pointer none ∧ s9 = .pointer none ∧ Kept (fun _ => False) w wz)
      case first =>
        have f0 := HB0.out.c0
        have f1 := HB0.out.c1
        have f2 := HB0.out.c2
        have f3 := HB0.out.c3
        have f5 := HB0.out.lt
        have HN := Lib.hid (noW_nil wA)
        have HFF : Hid (∀ V, Kept (fun _ => False) wA V → V.cell? ⟨bx, 3, none⟩ = some (.int .i64 x.h) ∧ bx < V.heap.size) := Lib.hid fun V K => ⟨(HB0.out.kept K (fun h => h)).c3, (HB0.out.kept K (fun h => h)).lt⟩
        by_cases e0 : x.d = 0
        · have q0 : (x.d == 0) = true := by simpa using e0
          clear e0
          go_wp2_with fail
          refine (add_n HN.out _ _).mono ?_
          rintro e w' ⟨rfl, hww⟩
          obtain rfl := hww.symm
          go_wp2_with fail
          refine (dadd_n _ _ _).mono ?_
          rintro e w' ⟨rfl, hww⟩
          obtain rfl := hww.symm
          dsimp only
          go_wp2_with fail
          go_meet
          exact ⟨rfl, rfl, HK.out⟩
        have q0 : (x.d == 0) = false := by simpa using e0
        clear e0
        by_cases e1 : x.d = 1
        · have q1 : (x.d == 1) = true := by simpa using e1
          clear e1
          go_wp2_with fail
          clear f0 f1 f2 f3 f5
          go_region_held3 (fun V => V.cell? ⟨bx, 3, none⟩ = some (.int .i64 x.h) ∧ bx < V.heap.size) (exact HFF.out _ (by repeat (first | exact Kept.refl _ _ | refine Kept.drew ?_))) (first | (go_at_call 29; refine (dcancel_n _ _).mono ?_; rintro e w' ⟨rfl, hww⟩; obtain rfl := hww.symm) | (go_at_call 20; refine (cancel_n (noW_nil _) _).mono ?_; rintro e w' ⟨rfl, hww⟩; obtain rfl := hww.symm))
          all_goals
            go_wp2_with fail
            go_meet
            exact ⟨rfl, rfl, HK.out.trans (by repeat (first | exact Kept.refl _ _ | refine Kept.drew ?_)) (fun _ _ h => h)⟩
        have q1 : (x.d == 1) = false := by simpa using e1
        clear e1
        by_cases e2 : x.d = 2
        · have q2 : (x.d == 2) = true := by simpa using e2
          clear e2
          go_wp2_with (first | (go_at_call 15; refine (add_n HN.out _ _).mono ?_; rintro e w' ⟨rfl, hww⟩; obtain rfl := hww.symm) | (go_at_call 28; refine (dadd_n _ _ _).mono ?_; rintro e w' ⟨rfl, hww⟩; obtain rfl := hww.symm) | (go_at_call 17; refine (adv_n HN.out _).mono ?_; rintro e w' ⟨rfl, hww⟩; obtain rfl := hww.symm) | (go_at_call 30; refine (dadvance_n _ _).mono ?_; rintro e w' ⟨rfl, hww⟩; obtain rfl := hww.symm) | (go_at_call 31; refine (alike_t (l := []) (Rows.nil _ _ _) (Rows.nil _ _ _) (by decide)).mono ?_; rintro e w6 ⟨rfl, K⟩; have HN6 := Lib.hid (noW_nil w6); have HK6 := Lib.hid (HK.out.trans K (fun _ _ h => h)); clear K) | (go_at_call 26; refine (copy_n HN.out).mono ?_; rintro e w' ⟨rfl, hww⟩; obtain rfl := hww.symm) | (go_at_call 32; refine (dcopy_n _).mono ?_; rintro e w' ⟨rfl, hww⟩; obtain rfl := hww.symm))
          go_meet
          exact ⟨rfl, rfl, HK6.out⟩
        have q2 : (x.d == 2) = false := by simpa using e2
        clear e2
        by_cases e3 : x.d = 3
        · have q3 : (x.d == 3) = true := by simpa using e3
          clear e3
          go_wp2_with (first | (go_at_call 15; refine (add_n HN.out _ _).mono ?_; rintro e w' ⟨rfl, hww⟩; obtain rfl := hww.symm) | (go_at_call 28; refine (dadd_n _ _ _).mono ?_; rintro e w' ⟨rfl, hww⟩; obtain rfl := hww.symm) | (go_at_call 17; refine (adv_n HN.out _).mono ?_; rintro e w' ⟨rfl, hww⟩; obtain rfl := hww.symm) | (go_at_call 30; refine (dadvance_n _ _).mono ?_; rintro e w' ⟨rfl, hww⟩; obtain rfl := hww.symm) | (go_at_call 31; refine (alike_t (l := []) (Rows.nil _ _ _) (Rows.nil _ _ _) (by decide)).mono ?_; rintro e w6 ⟨rfl, K⟩; have HN6 := Lib.hid (noW_nil w6); have HK6 := Lib.hid (HK.out.trans K (fun _ _ h => h)); clear K) | (go_at_call 26; refine (copy_n HN.out).mono ?_; rintro e w' ⟨rfl, hww⟩; obtain rfl := hww.symm) | (go_at_call 32; refine (dcopy_n _).mono ?_; rintro e w' ⟨rfl, hww⟩; obtain rfl := hww.symm))
          go_meet
          exact ⟨rfl, rfl, HK.out⟩
        have q3 : (x.d == 3) = false := by simpa using e3
        clear e3
        go_wp2_with fail
        go_meet
        exact ⟨rfl, rfl, HK.out⟩
      case rest =>
        obtain ⟨rfl, rfl, K⟩ := hcut
        have HN := Lib.hid (noW_nil wc)
        have hm80 := HKM.out
        clear HK
        have HK := Lib.hid K
        clear K HB0
        go_wp2_with (first | (go_at_call 25; refine (next_n HN.out).mono ?_; rintro e w' ⟨rfl, hww⟩; obtain rfl := hww.symm) | (go_at_call 33; refine (dnext_n _).mono ?_; rintro e w' ⟨rfl, hww⟩; obtain rfl := hww.symm) | (go_at_call 21; refine (now_n HN.out).mono ?_; rintro e w' ⟨rfl, hww⟩; obtain rfl := hww.symm) | (go_at_call 34; refine (dnow_n _).mono ?_; rintro e w' ⟨rfl, hww⟩; obtain rfl := hww.symm) | (go_at_call 16; refine (len_n HN.out).mono ?_; rintro e w' ⟨rfl, hww⟩; obtain rfl := hww.symm) | (go_at_call 35; refine (dlen_n _).mono ?_; rintro e w' ⟨rfl, hww⟩; obtain rfl := hww.symm) | (go_at_call 22; refine (room_n HN.out).mono ?_; rintro e w' ⟨rfl, hww⟩; obtain rfl := hww.symm) | (go_at_call 36; refine (droom_n _).mono ?_; rintro e w' ⟨rfl, hww⟩; obtain rfl := hww.symm) | (go_at_call 24; refine (list_n HN.out).mono ?_; rintro e w' ⟨rfl, hww⟩; obtain rfl := hww.symm) | (go_at_call 37; refine (dlist_n _).mono ?_; rintro e w' ⟨rfl, hww⟩; obtain rfl := hww.symm) | (go_at_call 31; refine (alike_t (l := []) (Rows.nil _ _ _) (Rows.nil _ _ _) (by decide)).mono ?_; rintro e w6 ⟨rfl, K⟩; have HK6 := Lib.hid (HK.out.trans K (fun _ _ h => h)); clear K))
        go_roundw
        case rel => exact ⟨k + 1, by omega, rfl, rfl, by go_num, HK6.out⟩
        case measure => simp [intOf]; omega
    · obtain rfl : k = l.length := by omega
      go_wp2_with (go_at_call 13; refine (HWK.out _ HW.out).mono ?_; rintro e w4 ⟨rfl, K⟩; have HK4 := Lib.hid (HW.out.trans K (fun _ _ h => h)); clear K)
      go_ret
      exact ⟨rfl, HK4.out⟩
end Go.Proofs.YtjlcchjcppkbjaaDoor

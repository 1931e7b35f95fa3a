/- WhNil: texts for the statements of this seat: contracts of functions, walks, plain laws. Conditions: none. -/
import Derived.Test.YtjlcchjcppkbjaaDoorWhSt
set_option linter.all false
/- Wheels that are nil or were not made by New; WheelNil. -/
namespace Go.Proofs.YtjlcchjcppkbjaaDoor
open Go.RowKit
/-- No wheel. -/
def NoW (w : World) (p : Option Addr) : Prop := Calls Tryd.prog 39 #[.pointer p] w fun e w' => e = .returned (.bool false) ∧ w' = w
set_option maxRecDepth 100000 in
theorem noW_nil (w : World) : NoW w none := by
  unfold NoW
  go_enter Tryd.func39, Tryd.ntmps39
  go_wp2_with fail
  go_ret
  exact ⟨rfl, rfl⟩
set_option maxRecDepth 100000 in
theorem noW_zero {w : World} {b : Nat} (h : w.cell? ⟨b, 4, none⟩ = some (.map none)) (hl : b < w.heap.size) : NoW w (some ⟨b, 0, none⟩) := by
  unfold NoW
  have hne := fun (w : World) (r : Option Nat) => run_neq_map_nil (P := Tryd.prog) w 76 30 90 r Tryd.underlying76
  go_enter Tryd.func39, Tryd.ntmps39
  go_wp2_with fail
  go_ret
  exact ⟨rfl, rfl⟩
variable {w : World} {p : Option Addr}
set_option maxRecDepth 100000 in
theorem add_n (h : NoW w p) (a b : Int) : Calls Tryd.prog 15 #[.pointer p, .int .i64 a, .int .i64 b] w fun e w' => e = .returned (.tuple #[.int .i64 0, .int .i64 1]) ∧ w' = w := by
  have HV := Lib.hid h
  clear h
  unfold NoW at HV
  go_enter Tryd.func15, Tryd.ntmps15
  go_wp2_with (go_at_call 39; refine HV.out.mono ?_; rintro e w' ⟨rfl, hww⟩; obtain rfl := hww.symm)
  go_ret2
  exact ⟨rfl, rfl⟩
set_option maxRecDepth 100000 in
theorem adv_n (h : NoW w p) (a : Int) : Calls Tryd.prog 17 #[.pointer p, .int .i64 a] w fun e w' => e = .returned (.tuple #[.slice none 0 0, .int .i64 1]) ∧ w' = w := by
  have HV := Lib.hid h
  clear h
  unfold NoW at HV
  go_enter Tryd.func17, Tryd.ntmps17
  go_wp2_with (go_at_call 39; refine HV.out.mono ?_; rintro e w' ⟨rfl, hww⟩; obtain rfl := hww.symm)
  go_ret2
  exact ⟨rfl, rfl⟩
set_option maxRecDepth 100000 in
theorem cancel_n (h : NoW w p) (a : Int) : Calls Tryd.prog 20 #[.pointer p, .int .i64 a] w fun e w' => e = .returned (.int .i64 1) ∧ w' = w := by
  have HV := Lib.hid h
  clear h
  unfold NoW at HV
  go_enter Tryd.func20, Tryd.ntmps20
  go_wp2_with (go_at_call 39; refine HV.out.mono ?_; rintro e w' ⟨rfl, hww⟩; obtain rfl := hww.symm)
  go_ret
  exact ⟨rfl, rfl⟩
set_option maxRecDepth 100000 in
theorem now_n (h : NoW w p) : Calls Tryd.prog 21 #[.pointer p] w fun e w' => e = .returned (.int .i64 0) ∧ w' = w := by
  have HV := Lib.hid h
  clear h
  unfold NoW at HV
  go_enter Tryd.func21, Tryd.ntmps21
  go_wp2_with (go_at_call 39; refine HV.out.mono ?_; rintro e w' ⟨rfl, hww⟩; obtain rfl := hww.symm)
  go_ret
  exact ⟨rfl, rfl⟩
set_option maxRecDepth 100000 in
theorem len_n (h : NoW w p) : Calls Tryd.prog 16 #[.pointer p] w fun e w' => e = .returned (.int .i64 0) ∧ w' = w := by
  have HV := Lib.hid h
  clear h
  unfold NoW at HV
  go_enter Tryd.func16, Tryd.ntmps16
  go_wp2_with (go_at_call 39; refine HV.out.mono ?_; rintro e w' ⟨rfl, hww⟩; obtain rfl := hww.symm)
  go_ret
  exact ⟨rfl, rfl⟩
set_option maxRecDepth 100000 in
theorem room_n (h : NoW w p) : Calls Tryd.prog 22 #[.pointer p] w fun e w' => e = .returned (.int .i64 0) ∧ w' = w := by
  have HV := Lib.hid h
  clear h
  unfold NoW at HV
  go_enter Tryd.func22, Tryd.ntmps22
  go_wp2_with (go_at_call 39; refine HV.out.mono ?_; rintro e w' ⟨rfl, hww⟩; obtain rfl := hww.symm)
  go_ret
  exact ⟨rfl, rfl⟩
set_option maxRecDepth 100000 in
theorem list_n (h : NoW w p) : Calls Tryd.prog 24 #[.pointer p] w fun e w' => e = .returned (.slice none 0 0) ∧ w' = w := by
  have HV := Lib.hid h
  clear h
  unfold NoW at HV
  go_enter Tryd.func24, Tryd.ntmps24
  go_wp2_with (go_at_call 39; refine HV.out.mono ?_; rintro e w' ⟨rfl, hww⟩; obtain rfl := hww.symm)
  go_ret
  exact ⟨rfl, rfl⟩
set_option maxRecDepth 100000 in
theorem next_n (h : NoW w p) : Calls Tryd.prog 25 #[.pointer p] w fun e w' => e = .returned (.tuple #[.int .i64 0, .bool false]) ∧ w' = w := by
  have HV := Lib.hid (len_n h)
  clear h
  go_enter Tryd.func25, Tryd.ntmps25
  go_wp2_with (go_at_call 16; refine HV.out.mono ?_; rintro e w' ⟨rfl, hww⟩; obtain rfl := hww.symm)
  go_ret2
  exact ⟨rfl, rfl⟩
set_option maxRecDepth 100000 in
theorem copy_n (h : NoW w p) : Calls Tryd.prog 26 #[.pointer p] w fun e w' => e = .returned (.pointer none) ∧ w' = w := by
  have HV := Lib.hid h
  clear h
  unfold NoW at HV
  go_enter Tryd.func26, Tryd.ntmps26
  go_wp2_with (go_at_call 39; refine HV.out.mono ?_; rintro e w' ⟨rfl, hww⟩; obtain rfl := hww.symm)
  go_ret
  exact ⟨rfl, rfl⟩
set_option maxRecDepth 100000 in
set_option maxHeartbeats 4000000 in
theorem wheelNil_w (hT : Tab w) (d t i h : Int) : Calls Tryd.prog 11 #[.agg #[.int .i64 d, .int .i64 t, .int .i64 i, .int .i64 h]] w fun e w' => e = .returned (.bool true) ∧ Kept (fun _ => False) w w' := by
  have HT := Lib.hid hT
  clear hT
  go_enter Tryd.func11, Tryd.ntmps11
  go_wp2_with fail
  obtain ⟨wq, hwq⟩ : ∃ wq, (((w.alloc (.cells #[.int .i64 d, .int .i64 t, .int .i64 i, .int .i64 h] 45)).alloc (.cells Tryd.zeroCells83 83)).alloc (.cells #[.pointer none, .pointer (some ⟨w.heap.size + 1, 0, none⟩)] 24)) = wq := ⟨_, rfl⟩
  have HK : Hid (Kept (fun _ => False) w wq) := Lib.hid (by rw [← hwq]; exact (((Kept.refl _ w).alloc _).alloc _).alloc _)
  have hs : wq.heap.size = w.heap.size + 1 + 1 + 1 := by rw [← hwq]; simp
  have e1 : ∀ j, wq.cell? ⟨w.heap.size, j, none⟩ = (#[.int .i64 d, .int .i64 t, .int .i64 i, .int .i64 h] : Array Value)[j]? := fun j => by
    rw [← hwq, World.cell?_alloc_past _ _ _ (by simp only [World.size_alloc]; omega), World.cell?_alloc_past _ _ _ (by simp only [World.size_alloc]; omega)]
    exact World.cell?_alloc_at _ _ _ _ rfl
  have e2 : wq.cell? ⟨w.heap.size + 1, 4, none⟩ = some (.map none) := by
    rw [← hwq, World.cell?_alloc_past _ _ _ (by simp only [World.size_alloc]; omega)]
    rw [World.cell?_alloc_at _ _ _ _ (by simp), zero83_get 4 (by omega)]
    rfl
  have e3 : ∀ j, wq.cell? ⟨w.heap.size + 1 + 1, j, none⟩ = (#[.pointer none, .pointer (some ⟨w.heap.size + 1, 0, none⟩)] : Array Value)[j]? := fun j => by
    rw [← hwq]; exact World.cell?_alloc_at _ _ _ _ (by simp)
  have d1 : wq.cell? ⟨w.heap.size, 1, none⟩ = some (.int .i64 t) := e1 1
  have d2 : wq.cell? ⟨w.heap.size, 2, none⟩ = some (.int .i64 i) := e1 2
  have d3 : wq.cell? ⟨w.heap.size, 3, none⟩ = some (.int .i64 h) := e1 3
  have q0 : wq.cell? ⟨w.heap.size + 1 + 1, 0, none⟩ = some (.pointer none) := e3 0
  have q1 : wq.cell? ⟨w.heap.size + 1 + 1, 1, none⟩ = some (.pointer (some ⟨w.heap.size + 1, 0, none⟩)) := e3 1
  have HZ := Lib.hid (noW_zero e2 (by omega))
  have HNL := Lib.hid (noW_nil wq)
  have HT1 := Lib.hid (HT.out.kept HK.out (fun h => h))
  rw [hwq]
  clear hwq e1 e2 e3
  go_loopw [5] (fun s5 wr => wr = wq ∧ ∃ k : Nat, k ≤ 2 ∧ s5 = .int .i64 k) (fun s5 _ => 2 - (intOf s5).toNat)
  case atStart => exact ⟨rfl, 0, by omega, rfl⟩
  case round =>
    obtain ⟨rfl, k, hk, rfl⟩ := hrel
    obtain rfl | rfl | rfl : k = 0 ∨ k = 1 ∨ k = 2 := by omega
    · have HG := HNL
      go_wp2_with (first | (go_at_call 15; refine (add_n HG.out _ _).mono ?_; rintro e w' ⟨rfl, hww⟩; obtain rfl := hww.symm) | (go_at_call 17; refine (adv_n HG.out _).mono ?_; rintro e w' ⟨rfl, hww⟩; obtain rfl := hww.symm) | (go_at_call 25; refine (next_n HG.out).mono ?_; rintro e w' ⟨rfl, hww⟩; obtain rfl := hww.symm) | (go_at_call 20; refine (cancel_n HG.out _).mono ?_; rintro e w' ⟨rfl, hww⟩; obtain rfl := hww.symm) | (go_at_call 21; refine (now_n HG.out).mono ?_; rintro e w' ⟨rfl, hww⟩; obtain rfl := hww.symm) | (go_at_call 16; refine (len_n HG.out).mono ?_; rintro e w' ⟨rfl, hww⟩; obtain rfl := hww.symm) | (go_at_call 22; refine (room_n HG.out).mono ?_; rintro e w' ⟨rfl, hww⟩; obtain rfl := hww.symm) | (go_at_call 24; refine (list_n HG.out).mono ?_; rintro e w' ⟨rfl, hww⟩; obtain rfl := hww.symm) | (go_at_call 26; refine (copy_n HG.out).mono ?_; rintro e w' ⟨rfl, hww⟩; obtain rfl := hww.symm))
      go_roundw
      case rel => exact ⟨by first | trivial | rfl, 1, by omega, by go_num⟩
      case measure => simp [intOf]
    · have HG := HZ
      go_wp2_with (first | (go_at_call 15; refine (add_n HG.out _ _).mono ?_; rintro e w' ⟨rfl, hww⟩; obtain rfl := hww.symm) | (go_at_call 17; refine (adv_n HG.out _).mono ?_; rintro e w' ⟨rfl, hww⟩; obtain rfl := hww.symm) | (go_at_call 25; refine (next_n HG.out).mono ?_; rintro e w' ⟨rfl, hww⟩; obtain rfl := hww.symm) | (go_at_call 20; refine (cancel_n HG.out _).mono ?_; rintro e w' ⟨rfl, hww⟩; obtain rfl := hww.symm) | (go_at_call 21; refine (now_n HG.out).mono ?_; rintro e w' ⟨rfl, hww⟩; obtain rfl := hww.symm) | (go_at_call 16; refine (len_n HG.out).mono ?_; rintro e w' ⟨rfl, hww⟩; obtain rfl := hww.symm) | (go_at_call 22; refine (room_n HG.out).mono ?_; rintro e w' ⟨rfl, hww⟩; obtain rfl := hww.symm) | (go_at_call 24; refine (list_n HG.out).mono ?_; rintro e w' ⟨rfl, hww⟩; obtain rfl := hww.symm) | (go_at_call 26; refine (copy_n HG.out).mono ?_; rintro e w' ⟨rfl, hww⟩; obtain rfl := hww.symm))
      go_roundw
      case rel => exact ⟨by first | trivial | rfl, 2, by omega, by go_num⟩
      case measure => simp [intOf]
    · go_wp2_with (go_at_call 13; refine (works_c HT1.out).mono ?_; rintro e w' ⟨rfl, K⟩; have HK2 := Lib.hid K; clear K)
      go_ret
      exact ⟨rfl, HK.out.trans HK2.out (fun _ _ h => h)⟩
end Go.Proofs.YtjlcchjcppkbjaaDoor

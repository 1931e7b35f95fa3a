/- ArUsesW: texts for the statements of this seat: contracts of functions, walks, plain laws. Conditions: none. -/
import Derived.Test.YtokmjjjedljcpaaArUses
namespace Go.Proofs.Ytokmjjjedljcpaa
open Go.RowKit

set_option maxHeartbeats 2000000 in
set_option maxRecDepth 100000 in
theorem uses_c (uses v : Int) (w : World) (s0 : 0 ≤ uses) (s1 : uses ≤ 65535) :
    Calls Try.prog 4 #[.int .u16 uses, .int .i64 v] w fun e w' => e = .returned (.bool true) ∧ Kept (fun _ => False) w w' := by
  go_enter Try.func4, Try.ntmps4
  go_wp2_with fail
  refine (new_a 1 _ (by omega) (by omega)).mono ?_
  rintro e w1 ⟨rfl, I0, K0⟩
  have hla := I0.lta
  rw [show ((1 : Int)).toNat = 1 from rfl] at I0
  go_wp2_with fail
  generalize hN : 1 + uses % 400 = N
  have n1 : 1 ≤ N := by omega
  have n2 : N ≤ 400 := by omega
  clear hN
  obtain ⟨n, rfl⟩ := Int.eq_ofNat_of_zero_le (show 0 ≤ N by omega)
  go_loopw [8] (fun i wr => ∃ k : Nat, k ≤ n ∧ i = .int .i64 ((k : Int) + 1) ∧ (∃ a, IsA wr (w.heap.size + 1) w.heap.size 1 a ∧ U1 k a) ∧ Kept (fun _ => False) w wr)
    (fun i _ => n + 1 - (intOf i).toNat)
  case atStart => exact ⟨0, by omega, rfl, ⟨_, I0, U1_start⟩, K0⟩
  case round =>
    clear I0 K0
    obtain ⟨k, hk, rfl, ⟨a, I, hS⟩, K⟩ := hrel
    by_cases hlt : k < n
    · obtain ⟨a', hp, hS'⟩ := U1_put hS v
      have HC := Lib.hid (put_a I hp)
      have la := I.lta
      go_wp2_with fail
      refine HC.out.mono ?_
      rintro e w2 ⟨rfl, I2, K2⟩
      have KK : Kept (fun _ => False) w w2 := K.trans K2 (fun i hi h => by rcases h with h | h <;> omega)
      have la2 := K2.size
      clear K K2 HC hp I hS
      go_wp2_with fail
      have I3 : IsA (w2.alloc (.cells #[.int .i64 (4096 * ((k : Int) + 1) - 4096), .int .i64 (4096 * ((k : Int) + 1) + 4096), .int .i64 (4096 * ((k : Int) + 1) + 1), .int .i64 (-(4096 * ((k : Int) + 1))), .int .i64 ((k : Int) + 1), .int .i64 0] 27)) (w.heap.size + 1) w.heap.size 1 a' :=
        I2.kept ((Kept.refl (fun _ => False) w2).alloc _) (fun h => h) (fun h => h)
      have hc : ∀ j : Nat, j < 6 → ∃ x : Int, (w2.alloc (.cells #[.int .i64 (4096 * ((k : Int) + 1) - 4096), .int .i64 (4096 * ((k : Int) + 1) + 4096), .int .i64 (4096 * ((k : Int) + 1) + 1), .int .i64 (-(4096 * ((k : Int) + 1))), .int .i64 ((k : Int) + 1), .int .i64 0] 27)).cell? ⟨w2.heap.size, j, none⟩ = some (.int .i64 x) ∧
          x ≠ 4096 * ((k + 1 : Nat) : Int) ∧ x ≤ 9223372036854775807 := by
        intro j hj
        rcases (by omega : j = 0 ∨ j = 1 ∨ j = 2 ∨ j = 3 ∨ j = 4 ∨ j = 5) with rfl | rfl | rfl | rfl | rfl | rfl <;> exact ⟨_, by rw [World.cell?_alloc_at _ _ _ _ rfl]; rfl, by omega, by omega⟩
      have KK2 := KK.alloc (.cells #[.int .i64 (4096 * ((k : Int) + 1) - 4096), .int .i64 (4096 * ((k : Int) + 1) + 4096), .int .i64 (4096 * ((k : Int) + 1) + 1), .int .i64 (-(4096 * ((k : Int) + 1))), .int .i64 ((k : Int) + 1), .int .i64 0] 27)
      have hL : w.heap.size + 1 < w2.heap.size := by omega
      obtain ⟨L, hLe⟩ : ∃ L, L = w2.heap.size := ⟨_, rfl⟩
      rw [← hLe] at hc hL ⊢
      have hL3 : L < w2.heap.size + 1 := by omega
      clear hLe I2 KK
      go_loopw [57] (fun i wr => ∃ j : Nat, j ≤ 6 ∧ i = .int .i64 j ∧ IsA wr (w.heap.size + 1) w.heap.size 1 a' ∧ (∀ j : Nat, j < 6 → ∃ x : Int, wr.cell? ⟨L, j, none⟩ = some (.int .i64 x) ∧ x ≠ 4096 * ((k + 1 : Nat) : Int) ∧ x ≤ 9223372036854775807) ∧ L < wr.heap.size ∧ Kept (fun _ => False) w wr)
        (fun i _ => 6 - (intOf i).toNat)
      case atStart => exact ⟨0, by omega, rfl, I3, hc, by simp; omega, KK2⟩
      case round =>
        clear hc KK2 hL3 I3
        obtain ⟨j, hj, rfl, I, hc, hL2, K⟩ := hrel
        by_cases hj2 : j < 6
        · obtain ⟨x, hx, hx1, hx2⟩ := hc j hj2
          have hno := U2_none hS' hx1
          have HG := Lib.hid (get_a I hx2 (no_get hno))
          have HF := Lib.hid (free_a I hx2 (no_free hno))
          have HX := Lib.hid hx1
          have HCC := Lib.hid hc
          clear hc hx1 hno
          go_wp2_with fail
          refine HG.out.mono ?_
          rintro e w3 ⟨rfl, rfl⟩
          go_wp2_with fail
          refine HF.out.mono ?_
          rintro e w3 ⟨rfl, I3, K3⟩
          have hc3 : ∀ j : Nat, j < 6 → ∃ x : Int, w3.cell? ⟨L, j, none⟩ = some (.int .i64 x) ∧ x ≠ 4096 * ((k + 1 : Nat) : Int) ∧ x ≤ 9223372036854775807 := fun j hj => by
            obtain ⟨x, h1, h2⟩ := HCC.out j hj
            exact ⟨x, (K3.cell (a := ⟨L, j, none⟩) hL2 (fun h => by rcases h with h | h <;> simp at h <;> omega)).trans h1, h2⟩
          have KK : Kept (fun _ => False) w w3 := K.trans K3 (fun i hi h => by rcases h with h | h <;> omega)
          have hL4 : L < w3.heap.size := Nat.lt_of_lt_of_le hL2 K3.size
          have HC3 := Lib.hid hc3
          clear HCC HG HF K K3 hc3
          go_wp2
          go_roundw
          case rel => exact ⟨j + 1, by omega, by go_num, I3, HC3.out, hL4, KK⟩
          case measure => simp [intOf]; omega
        · obtain rfl : j = 6 := by omega
          clear hc
          have hg := U2_get hS' (by omega)
          obtain ⟨a'', hp, hS2⟩ := U2_free hS' (by omega) (by omega)
          rw [show ((k + 1 : Nat) : Int) = (k : Int) + 1 from by omega] at hg hp
          have hp2 := no_free (U1_none hS2 (4096 * ((k : Int) + 1)))
          have HG := Lib.hid (get_a I (by omega) hg)
          have HF := Lib.hid (free_a I (by omega) hp)
          have HP := Lib.hid hp2
          clear hg hp hp2
          go_wp2_with fail
          refine HG.out.mono ?_
          rintro e w3 ⟨rfl, rfl⟩
          go_wp2_with fail
          refine HF.out.mono ?_
          rintro e w3 ⟨rfl, I3, K3⟩
          have HF2 := Lib.hid (free_a I3 (by omega) HP.out)
          have KK : Kept (fun _ => False) w w3 := K.trans K3 (fun i hi h => by rcases h with h | h <;> omega)
          clear HF HG K K3 HP
          go_wp2_with fail
          refine HF2.out.mono ?_
          rintro e w4 ⟨rfl, I4, K4⟩
          have KK2 : Kept (fun _ => False) w w4 := KK.trans K4 (fun i hi h => by rcases h with h | h <;> omega)
          clear KK K4 HF2
          go_wp2
          go_roundw
          case rel => exact ⟨k + 1, by omega, by go_num, ⟨a'', I4, hS2⟩, KK2⟩
          case measure => simp [intOf]; omega
    · obtain rfl : n = k := by omega
      obtain ⟨hl, hr⟩ := U1_end hS (by omega)
      have HL := Lib.hid (len_a I (n := 0) (by omega))
      have HR := Lib.hid (room_a I (n := 1) (by omega))
      clear hl hr
      go_wp2_with fail
      refine HL.out.mono ?_
      rintro e w3 ⟨rfl, rfl⟩
      go_wp2_with fail
      refine HR.out.mono ?_
      rintro e w3 ⟨rfl, I3, K3⟩
      go_wp2_with fail
      refine (works_c _).mono ?_
      rintro e w4 ⟨rfl, K4⟩
      go_wp2
      go_ret
      exact ⟨rfl, (K.trans K3 (fun _ _ h => h)).trans K4 (fun _ _ h => h)⟩
end Go.Proofs.Ytokmjjjedljcpaa

/- ArStackW: texts for the statements of this seat: contracts of functions, walks, plain laws. Conditions: none. -/
import Derived.Test.YtokmjjjedljcpaaArStack
namespace Go.Proofs.Ytokmjjjedljcpaa
open Go.RowKit

set_option maxHeartbeats 2000000 in
set_option maxRecDepth 100000 in
theorem stack_c (size turn freed : Int) (w : World) (s0 : 0 ≤ size) (s1 : size ≤ 255) (t0 : 0 ≤ turn) (t1 : turn ≤ 255) (f0 : 0 ≤ freed) (f1 : freed ≤ 255) :
    Calls Try.prog 3 #[.int .u8 size, .int .u8 turn, .int .u8 freed] w fun e w' => e = .returned (.bool true) ∧ Kept (fun _ => False) w w' := by
  go_enter Try.func3, Try.ntmps3
  go_wp2_with fail
  generalize hN : 1 + size % 100 = N
  have n1 : 1 ≤ N := by omega
  have n2 : N ≤ 100 := by omega
  clear hN
  obtain ⟨n, rfl⟩ := Int.eq_ofNat_of_zero_le (show 0 ≤ N by omega)
  refine (new_a (n + 3) _ (by omega) (by omega)).mono ?_
  rintro e w1 ⟨rfl, I0, K0⟩
  have hsz := K0.size
  have hla := I0.lta
  rw [show ((n : Int) + 3).toNat = n + 3 from by omega] at I0
  go_wp2_with fail
  go_loopw [10, 38] (fun v i wr => ∃ k : Nat, k ≤ n ∧ i = .int .i64 k ∧ (∃ a, IsA wr (w.heap.size + 1) w.heap.size (n + 3) a ∧ S1 (n + 3) k a) ∧ wr.ownsRow (w.heap.size + 2) 27 1 v k (hs k) ∧ Kept (fun _ => False) w wr)
    (fun _ i _ => n - (intOf i).toNat)
  case atStart => exact ⟨0, by omega, rfl, ⟨_, I0, S1_start _⟩, World.ownsRow_nil _ _ _ _, K0⟩
  case round =>
    obtain ⟨k, hk, rfl, ⟨a, I, hS⟩, hown, K⟩ := hrel
    by_cases hlt : k < n
    · obtain ⟨a', hp, hS'⟩ := S1_put hS (by omega) (k : Int)
      have HC := Lib.hid (put_a I hp)
      have la := I.lta
      go_wp2_with fail
      refine HC.out.mono ?_
      rintro e w2 ⟨rfl, I2, K2⟩
      have hown2 := ownsRow_kept hown K2 (fun b hb _ h => by rcases h with h | h <;> omega)
      have la2 := K2.size
      clear HC
      go_wp2_with (at_builtin; refine wpList_app1 el26 rfl _ _ rfl (w.heap.size + 2) _ k (hs k) rfl hown2 rfl rfl ?c1 ?c2 ?c3 ?c4 ?_)
      case c1 => intro u hu; simp at hu; subst hu; rfl
      case c2 => unfold maxLen; omega
      case c3 => omega
      case c4 => omega
      intro g cap w3 hown3 K3
      have I3 : IsA w3 (w.heap.size + 1) w.heap.size (n + 3) a' := I2.kept K3 (fun h => by have := (ownsRow_block hown h).1; omega) (fun h => by have := (ownsRow_block hown h).1; omega)
      have KK : Kept (fun _ => False) w w3 := (K.trans K2 (fun i hi h => by rcases h with h | h <;> omega)).trans K3 (fun i hi h => by have := (ownsRow_block hown h).1; omega)
      rw [← hs_snoc] at hown3
      clear hown hown2 K K2 K3 K0 I0 hp
      go_wp2
      go_roundw
      case rel => exact ⟨k + 1, by omega, by go_num, ⟨a', I3, hS'⟩, hown3, KK⟩
      case measure => simp [intOf]; omega
    · obtain rfl : n = k := by omega
      obtain ⟨g, cap, rfl, hg⟩ := ownsRow_pos hown (by omega)
      have hm0 : 0 ≤ freed % (n : Int) := Int.emod_nonneg _ (by omega)
      have hm1 : freed % (n : Int) < n := Int.emod_lt_of_pos _ (by omega)
      clear I0 K0 hlt hk
      go_wp2_with fail
      generalize hM : (1 + freed % (n : Int)) = M
      have m1 : 1 ≤ M := by omega
      have m2 : M ≤ n := by omega
      clear hM hm0 hm1
      obtain ⟨m, rfl⟩ := Int.eq_ofNat_of_zero_le (show 0 ≤ M by omega)
      obtain ⟨t, rfl⟩ := Int.eq_ofNat_of_zero_le t0
      have hcell : ∀ i, i < n → ∀ (W : World), W.ownsRow (w.heap.size + 2) 27 1 (.slice (some ⟨g, 0, none⟩) n cap) n (hs n) → W.cell? ⟨g, i, none⟩ = some (.int .i64 (4096 + i)) := fun i hi W h => by
        rw [h.cellAt i (by omega), hs_get n i hi]
      have HCell := Lib.hid hcell
      clear hcell
      obtain ⟨wo, rfl⟩ : ∃ wo : World, wo = wr := ⟨_, rfl⟩
      go_loopw [66] (fun i wr => ∃ k : Nat, k ≤ m ∧ i = .int .i64 k ∧ (∃ a, IsA wr (w.heap.size + 1) w.heap.size (n + 3) a ∧ S2 n t k a) ∧ wr.ownsRow (w.heap.size + 2) 27 1 (.slice (some ⟨g, 0, none⟩) n cap) n (hs n) ∧ Kept (fun _ => False) w wr)
        (fun i _ => m - (intOf i).toNat)
      case atStart => exact ⟨0, by omega, rfl, ⟨_, I, S2_start hS⟩, hown, K⟩
      case round =>
        clear hown K hS I
        obtain ⟨k, hk, rfl, ⟨a, I, hS⟩, hown, K⟩ := hrel
        by_cases hlt : k < m
        · obtain ⟨a', hp, hS'⟩ := S2_free hS (by omega) (by omega)
          have hj := jj_lt (n := n) (t := t) (i := k) (by omega)
          have hc := HCell.out (jj n t k) hj wr hown
          have hx : (4096 : Int) + (jj n t k : Nat) ≤ 9223372036854775807 := by omega
          generalize (4096 : Int) + (jj n t k : Nat) = x at hc hp hx
          unfold jj at hc
          have hj2 : ((k : Int) + t) % n < n := Int.emod_lt_of_pos _ (by omega)
          have hj3 : 0 ≤ ((k : Int) + t) % n := Int.emod_nonneg _ (by omega)
          have HC := Lib.hid (free_a I hx hp)
          have la := I.lta
          clear hx
          go_wp2_with fail
          refine HC.out.mono ?_
          rintro e w2 ⟨rfl, I2, K2⟩
          have hown2 := ownsRow_kept hown K2 (fun b hb _ h => by rcases h with h | h <;> omega)
          have KK : Kept (fun _ => False) w w2 := K.trans K2 (fun i hi h => by rcases h with h | h <;> omega)
          clear hown K K2 HC hp hc
          go_wp2
          go_roundw
          case rel => exact ⟨k + 1, by omega, by go_num, ⟨a', I2, hS'⟩, hown2, KK⟩
          case measure => simp [intOf]; omega
        · obtain rfl : m = k := by omega
          clear hlt hk
          go_wp2_with fail
          obtain ⟨wo, rfl⟩ : ∃ wo : World, wo = wr := ⟨_, rfl⟩
          go_loopw [83] (fun i wr => ∃ k : Nat, k ≤ m ∧ i = .int .i64 k ∧ (∃ a, IsA wr (w.heap.size + 1) w.heap.size (n + 3) a ∧ S3 n t (m - k) a) ∧ wr.ownsRow (w.heap.size + 2) 27 1 (.slice (some ⟨g, 0, none⟩) n cap) n (hs n) ∧ Kept (fun _ => False) w wr)
            (fun i _ => m - (intOf i).toNat)
          case atStart => exact ⟨0, by omega, rfl, ⟨_, I, S3_start hS (by omega)⟩, hown, K⟩
          case round =>
            clear hown K hS I
            obtain ⟨k, hk, rfl, ⟨a, I, hS⟩, hown, K⟩ := hrel
            by_cases hlt : k < m
            · rw [show m - k = (m - 1 - k) + 1 from by omega] at hS
              obtain ⟨a', hp, hS'⟩ := S3_put hS (by omega) (k : Int)
              have hj := jj_lt (n := n) (t := t) (i := m - 1 - k) (by omega)
              have hx : (4096 : Int) + (jj n t (m - 1 - k) : Nat) ≤ 4294967296 := by omega
              have hx0 : 0 ≤ (4096 : Int) + (jj n t (m - 1 - k) : Nat) := by omega
              have hcc := HCell.out (jj n t (m - 1 - k)) hj
              generalize (4096 : Int) + (jj n t (m - 1 - k) : Nat) = x at hcc hp hx hx0
              unfold jj at hcc
              have hj2 : ((m : Int) - 1 - k + t) % n < n := Int.emod_lt_of_pos _ (by omega)
              have hj3 : 0 ≤ ((m : Int) - 1 - k + t) % n := Int.emod_nonneg _ (by omega)
              have HC := Lib.hid (put_a I hp)
              have HCC := Lib.hid hcc
              clear hcc
              have la := I.lta
              go_wp2_with fail
              refine HC.out.mono ?_
              rintro e w2 ⟨rfl, I2, K2⟩
              have hown2 := ownsRow_kept hown K2 (fun b hb _ h => by rcases h with h | h <;> omega)
              have KK : Kept (fun _ => False) w w2 := K.trans K2 (fun i hi h => by rcases h with h | h <;> omega)
              have hc := HCC.out w2 hown2
              clear hown K K2 HC hp HCC
              go_wp2
              go_roundw
              case rel => exact ⟨k + 1, by omega, by go_num, ⟨a', I2, by rw [show m - (k + 1) = m - 1 - k from by omega]; exact hS'⟩, hown2, KK⟩
              case measure => simp [intOf]; omega
            · obtain rfl : m = k := by omega
              clear hlt hk
              rw [Nat.sub_self] at hS
              go_wp2_with fail
              obtain ⟨wo, rfl⟩ : ∃ wo : World, wo = wr := ⟨_, rfl⟩
              go_loopw [113] (fun i wr => ∃ k : Nat, k ≤ 3 ∧ i = .int .i64 k ∧ (∃ a, IsA wr (w.heap.size + 1) w.heap.size (n + 3) a ∧ S4 (n + 3) (n + k) a) ∧ Kept (fun _ => False) w wr)
                (fun i _ => 3 - (intOf i).toNat)
              case atStart => exact ⟨0, by omega, rfl, ⟨_, I, S4_start hS⟩, K⟩
              case round =>
                clear hown K hS I
                obtain ⟨k, hk, rfl, ⟨a, I, hS⟩, K⟩ := hrel
                by_cases hlt : k < 3
                · obtain ⟨a', hp, hS'⟩ := S4_put hS (by omega) (k : Int)
                  have HC := Lib.hid (put_a I hp)
                  have la := I.lta
                  go_wp2_with fail
                  refine HC.out.mono ?_
                  rintro e w2 ⟨rfl, I2, K2⟩
                  have KK : Kept (fun _ => False) w w2 := K.trans K2 (fun i hi h => by rcases h with h | h <;> omega)
                  clear K K2 HC hp
                  go_wp2
                  go_roundw
                  case rel => exact ⟨k + 1, by omega, by go_num, ⟨a', I2, hS'⟩, KK⟩
                  case measure => simp [intOf]; omega
                · obtain rfl : k = 3 := by omega
                  obtain ⟨hp, hl, hr⟩ := S4_end hS
                  have HC := Lib.hid (put_a I hp)
                  have la := I.lta
                  go_wp2_with fail
                  refine HC.out.mono ?_
                  rintro e w2 ⟨rfl, I2, K2⟩
                  have KK : Kept (fun _ => False) w w2 := K.trans K2 (fun i hi h => by rcases h with h | h <;> omega)
                  have HL := Lib.hid (len_a I2 (n := (n : Int) + 3) (by omega))
                  have HR := Lib.hid (room_a I2 (n := 0) (by omega))
                  clear K K2 HC hp hl hr
                  go_wp2_with fail
                  refine HL.out.mono ?_
                  rintro e w3 ⟨rfl, rfl⟩
                  go_wp2_with fail
                  refine HR.out.mono ?_
                  rintro e w3 ⟨rfl, I3, K3⟩
                  go_wp2_with fail
                  refine (works_c _).mono ?_
                  rintro e w4 ⟨rfl, K4⟩
                  go_wp2
                  go_ret
                  exact ⟨rfl, (KK.trans K3 (fun _ _ h => h)).trans K4 (fun _ _ h => h)⟩
end Go.Proofs.Ytokmjjjedljcpaa

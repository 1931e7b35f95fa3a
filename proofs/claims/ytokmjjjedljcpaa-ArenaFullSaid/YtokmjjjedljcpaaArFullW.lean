/- ArFullW: texts for the statements of this seat: contracts of functions, walks, plain laws. Conditions: none. -/
import Derived.Test.YtokmjjjedljcpaaArLiveA
import Derived.Test.YtokmjjjedljcpaaArFun
namespace Go.Proofs.Ytokmjjjedljcpaa
open Go.RowKit

/-- The first k slots hold v. -/
def F1 (N k : Nat) (v : Int) (a : AA) : Prop := ∃ f, a = AA.of N f [] ∧ (∀ x, x < k → f x = { use := 1, taken := true, v := v }) ∧ ∀ x, k ≤ x → (f x).use = 0
theorem F1_start (N : Nat) (v : Int) : F1 N 0 v (AA.empty N) := ⟨_, AA.of_empty N, fun x h => by omega, fun x _ => rfl⟩
theorem F1_put {N k : Nat} {v : Int} {a : AA} (h : F1 N k v a) (hk : k < N) : ∃ a', a.put v = (a', 4096 + (k : Int), 0) ∧ F1 N (k + 1) v a' := by
  obtain ⟨f, rfl, h1, h2⟩ := h
  refine ⟨_, AA.put_new v hk (fun x hx => by rw [h1 x hx]; simp) (h2 k (Nat.le_refl _)), _, rfl, fun x hx => ?_, fun x hx => ?_⟩
  · by_cases e : x = k
    · subst e; rw [updU_at]
    · rw [updU_ne _ _ e]; exact h1 x (by omega)
  · rw [updU_ne _ _ (by omega)]; exact h2 x (by omega)
theorem F1_end {N : Nat} {v : Int} {a : AA} (h : F1 N N v a) (hN : N ≤ 4096) (h0 : 0 < N) : a.put v = (a, 0, 4) ∧ a.get (4096 + ((N - 1 : Nat) : Int)) = (v, true) ∧ a.len = N ∧ a.room = 0 ∧ a.live.length = N := by
  obtain ⟨f, rfl, h1, h2⟩ := h
  have hl := AA.len_all (f := f) (fl := []) (N := N) fun x hx => by rw [h1 x hx]
  refine ⟨AA.put_full v fun x hx => by rw [h1 x hx]; simp, ?_, hl, AA.room_none fun x hx => by rw [h1 x hx], ?_⟩
  · rw [AA.get_of 1 (N - 1) (by omega) hN (by omega) (by omega), h1 _ (by omega), if_pos ⟨rfl, rfl⟩]
  · rw [AA.live_length]; exact hl
theorem empty_room (N : Nat) : (AA.empty N).room = N := by
  rw [AA.of_empty, AA.room_of]
  have : (List.range N).countP (fun _ => (!false && (0 : Int) != 2147483648)) = (List.range N).length := List.countP_eq_length.2 fun x _ => by simp
  simp only [List.length_range] at this
  exact this

set_option maxHeartbeats 400000 in
set_option maxRecDepth 100000 in
theorem full_c (more v : Int) (w : World) (s0 : 0 ≤ more) (s1 : more ≤ 255) :
    Calls Try.prog 5 #[.int .u8 more, .int .i64 v] w fun e w' => e = .returned (.bool true) ∧ Kept (fun _ => False) w w' := by
  by_cases hm : more % 4 = 3
  · go_enter Try.func5, Try.ntmps5
    go_wp2_with fail
    refine (new_no _ _ (by omega)).mono ?_
    rintro e w1 ⟨rfl, rfl⟩
    go_wp2_with fail
    refine (new_no _ _ (by omega)).mono ?_
    rintro e w1 ⟨rfl, rfl⟩
    go_wp2_with fail
    refine (works_c _).mono ?_
    rintro e w1 ⟨rfl, K⟩
    go_wp2
    go_ret
    exact ⟨rfl, K⟩
  · have hm2 : more % 4 ≤ 2 := by omega
    have hm3 : 0 ≤ more % 4 := by omega
    generalize hq : more % 4 = q at *
    obtain ⟨N, hN⟩ : ∃ N : Nat, (N : Int) = 4096 + (q - 2) := ⟨(4096 + (q - 2)).toNat, by omega⟩
    have HN := Lib.hid hN
    have hN1 : N ≤ 4096 := by omega
    have hN2 : 4000 ≤ N := by omega
    have HQ := Lib.hid hq
    clear hN hm
    go_enter Try.func5, Try.ntmps5
    go_wp2_with fail
    refine (new_a _ _ (by omega) (by omega)).mono ?_
    rintro e w1 ⟨rfl, I0, K0⟩
    rw [show (4096 + (q - 2)).toNat = N from by have := HN.out; omega] at I0
    have HR := Lib.hid (room_a I0 (n := 4096 + (q - 2)) (by rw [empty_room]; exact HN.out))
    have la := I0.lta
    clear I0
    go_wp2_with fail
    refine HR.out.mono ?_
    rintro e w2 ⟨rfl, I1, K1⟩
    clear HR
    have KK := K0.trans K1 (fun _ _ h => h)
    clear K0 K1
    go_wp2_with fail
    go_loopw [10, 60] (fun l i wr => ∃ (k : Nat) (L : Int), k ≤ N ∧ i = .int .i64 k ∧ l = .int .i64 L ∧ L < 4096 + k ∧ (0 < k → L + 1 = 4096 + k) ∧ (∃ a, IsA wr (w.heap.size + 1) w.heap.size N a ∧ F1 N k v a) ∧ Kept (fun _ => False) w wr)
      (fun _ i _ => N - (intOf i).toNat)
    case atStart => exact ⟨0, 0, by omega, rfl, rfl, by omega, by omega, ⟨_, I1, F1_start _ _⟩, KK⟩
    case round =>
      clear I1 KK
      obtain ⟨k, L, hk, rfl, rfl, hL, hL2, ⟨a, I, hS⟩, K⟩ := hrel
      by_cases hlt : k < N
      · obtain ⟨a', hp, hS'⟩ := F1_put hS hlt
        have HC := Lib.hid (put_a I hp)
        have la := I.lta
        have hlt2 : (k : Int) < 4096 + (q - 2) := by have := HN.out; omega
        clear hp hL2
        go_wp2_with fail
        refine HC.out.mono ?_
        rintro e w3 ⟨rfl, I2, K2⟩
        have KK : Kept (fun _ => False) w w3 := K.trans K2 (fun i hi h => by rcases h with h | h <;> omega)
        clear K K2 HC
        go_wp2
        go_roundw
        case rel => exact ⟨k + 1, 4096 + k, by omega, by go_num, rfl, by omega, by omega, ⟨a', I2, hS'⟩, KK⟩
        case measure => simp [intOf]; omega
      · obtain rfl : N = k := by omega
        obtain ⟨h1, h2, h3, h4, h5⟩ := F1_end hS hN1 (by omega)
        rw [show (4096 : Int) + ((N - 1 : Nat) : Int) = L from by have := hL2 (by omega); omega] at h2
        have hlt2 : 4096 + (q - 2) ≤ N := by have := HN.out; omega
        have HP := Lib.hid (put_a I h1)
        have la := I.lta
        have H2 := Lib.hid h2
        have HL : Hid ((a.len : Int) = 4096 + (q - 2)) := Lib.hid (by rw [h3]; exact HN.out)
        have HLL : Hid (((N : Nat) : Int) = 4096 + (q - 2)) := HN
        have H4 := Lib.hid h4
        have H5 := Lib.hid h5
        clear h1 h2 h3 h4 h5 hL2
        go_wp2_with fail
        refine HP.out.mono ?_
        rintro e w3 ⟨rfl, I2, K2⟩
        have KK : Kept (fun _ => False) w w3 := K.trans K2 (fun i hi h => by rcases h with h | h <;> omega)
        have HG := Lib.hid (get_a I2 (by omega) H2.out)
        have HLen := Lib.hid (len_a I2 HL.out)
        have HRoom := Lib.hid (room_a I2 (n := 0) (by rw [H4.out]; rfl))
        clear K K2 HP
        go_wp2_with fail
        refine HG.out.mono ?_
        rintro e w4 ⟨rfl, rfl⟩
        go_wp2_with fail
        refine HLen.out.mono ?_
        rintro e w4 ⟨rfl, rfl⟩
        go_wp2_with fail
        refine HRoom.out.mono ?_
        rintro e w4 ⟨rfl, I3, K3⟩
        have HLive := Lib.hid (live_a I3)
        have HLen3 := Lib.hid (len_a I3 HL.out)
        clear HRoom HLen HG
        go_wp2_with fail
        refine HLive.out.mono ?_
        rintro e w5 ⟨v5, rfl, hown, K5⟩
        rw [H5.out] at hown
        obtain ⟨g, cap, rfl, -⟩ := ownsRow_pos hown (by omega)
        have I5 := I3.kept K5 (fun h => h) (fun h => h)
        have HLen5 := Lib.hid (len_a I5 HL.out)
        have KF := Lib.hid ((KK.trans K3 (fun _ _ h => h)).trans K5 (fun _ _ h => h))
        clear hown HLive HLen3 K3 KK K5
        go_wp2_with fail
        refine HLen5.out.mono ?_
        rintro e w6 ⟨rfl, rfl⟩
        go_wp2_with fail
        refine (works_c _).mono ?_
        rintro e w7 ⟨rfl, K7⟩
        go_wp2
        go_ret
        exact ⟨rfl, KF.out.trans K7 (fun _ _ h => h)⟩
end Go.Proofs.Ytokmjjjedljcpaa

/- OcSorted: texts for the statements of this seat: contracts of functions, walks, plain laws. Conditions: none. -/
import Derived.Test.YthpbejdigllmbaaDoorOcRows
import Derived.IntWalk
namespace Go.Proofs.YthpbejdigllmbaaDoor
open Go.RowKit
set_option maxHeartbeats 400000 in
theorem isSorted_c (v : Value) (xs : List Int) (w : World) (hI : Ints w v xs) (hs : xs.Pairwise (· ≤ ·)) (hm : xs.length ≤ 1000000000) :
    Calls Tryd.prog 37 #[v] w fun e w' => e = .returned (.bool true) ∧ ∃ n, w' = w.drewN n := by
  have hcell : ∀ k, k < xs.length → ∃ x b off cap, xs[k]? = some x ∧ v = .slice (some ⟨b, off, none⟩) xs.length cap ∧ w.cell? ⟨b, off + k, none⟩ = some (.int .i64 x) := fun k hk => by
    obtain ⟨b, off, cap, hv, hb, hc⟩ := hI.pos (by omega)
    exact ⟨_, b, off, cap, List.getElem?_eq_getElem hk, hv, hc k _ (List.getElem?_eq_getElem hk)⟩
  obtain ⟨a, cap, rfl⟩ := hI.len
  obtain ⟨n, hn⟩ : ∃ n, xs.length = n := ⟨_, rfl⟩
  have HN := Lib.hid hn
  rw [hn] at hm ⊢
  have HC := Lib.hid hcell
  have HP := Lib.hid (List.pairwise_iff_getElem.1 hs)
  clear hcell hI hn hs
  cases n with
  | zero =>
    go_enter Tryd.func37, Tryd.ntmps37
    go_wp2
    refine wp_loop_rounds 1 ?_
    rw [rounds_succ]
    go_wp2
    go_ret
    exact ⟨rfl, 0, rfl⟩
  | succ m =>
    go_enter Tryd.func37, Tryd.ntmps37
    go_wp2
    go_loopw [3] (fun i wr => ∃ k : Nat, k ≤ m ∧ i = .int .i64 k ∧ ∃ q, wr = w.drewN q) (fun i _ => (intOf i).toNat)
    case atStart => exact ⟨m, by omega, by go_num, 0, rfl⟩
    case round =>
      obtain ⟨k, hk, rfl, q, hq⟩ := hrel
      have HQ := Lib.hid hq
      clear hq
      cases k with
      | zero =>
        go_wp2
        go_ret
        exact ⟨rfl, q, HQ.out⟩
      | succ j =>
        obtain ⟨x, b, off, cap', hx, hv, hc⟩ := HC.out (j + 1) (by have := HN.out; omega)
        rw [HN.out] at hv
        injection hv with hv1 hv2 hv3
        subst hv1 hv3
        obtain ⟨y, b', off', cap'', hy, hv', hc'⟩ := HC.out j (by have := HN.out; omega)
        rw [HN.out] at hv'
        injection hv' with hv1' hv2' hv3'
        injection hv1' with hv1'
        injection hv1' with hb ho
        subst hb ho hv3'
        have hyx : y ≤ x := by
          obtain ⟨h1, rfl⟩ := List.getElem?_eq_some_iff.1 hx
          obtain ⟨h2, rfl⟩ := List.getElem?_eq_some_iff.1 hy
          exact HP.out j (j + 1) h2 h1 (by omega)
        have hlt : ¬ x < y := by omega
        have HL : Hid (∀ W, Calls Tryd.prog 48 #[.int .i64 x, .int .i64 y] W fun e w' => e = .returned (.bool false) ∧ w' = W) := Lib.hid (fun W => by
          refine (Tryd.cmp_Less_int2 x y W).mono ?_
          rintro e w' ⟨rfl, rfl⟩
          simp [hlt])
        have hc : wr.cell? ⟨b, off + (j + 1), none⟩ = some (.int .i64 x) := by rw [HQ.out]; exact hc
        have hc' : wr.cell? ⟨b, off + j, none⟩ = some (.int .i64 y) := by rw [HQ.out]; exact hc'
        clear hv2 hv2' hx hy hyx
        go_wp2
        have w1 : IntKind.i64.wrap (j : Int) = (j : Int) := IntWalk.i64_in _ (by omega)
        have w2 : ((j : Int) + 1).toNat = j + 1 := by omega
        have w3 : (0 : Int) ≤ (j : Int) + 1 := by omega
        have w4 : (j : Int) + 1 < (m : Int) + 1 := by omega
        have w5 : (j : Int) < (m : Int) + 1 := by omega
        go_quiet ((go_at_call 48; exact Calls.quiet_of_same (HL.out _)))
        clear w1 w2 w3 w4 w5
        go_wp2
        go_roundw
        case rel => exact ⟨j, by omega, by go_num, _, by rw [HQ.out]; exact World.drewN_drewN _ _ _⟩
        case measure => simp [intOf]
end Go.Proofs.YthpbejdigllmbaaDoor

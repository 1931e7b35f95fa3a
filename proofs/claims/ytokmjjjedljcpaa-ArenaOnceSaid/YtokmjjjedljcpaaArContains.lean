/- ArContains: texts for the statements of this seat: contracts of functions, walks, plain laws. Conditions: none. -/
import Derived.Test.YtokmjjjedljcpaaArSlices
namespace Go.Proofs.Ytokmjjjedljcpaa
open Go.RowKit

/-- slices.Index at a row of numbers. -/
def IndexPost (xs : List Int) (h : Int) (w : World) (e : Ending) (w' : World) : Prop :=
  ∃ r : Int, e = .returned (.int .i64 r) ∧ decide (r ≥ 0) = xs.contains h ∧ -1 ≤ r ∧ r ≤ 4611686018427387904 ∧ ∃ n, w' = w.drewN n

set_option maxHeartbeats 400000 in
theorem index_c (v1 : Value) (xs : List Int) (h : Int) (w : World) (h1 : Ints w v1 xs) (hm : xs.length ≤ 1000000) :
    Calls Try.prog 39 #[v1, .int .i64 h] w (IndexPost xs h w) := by
  rcases h1 with ⟨rfl, rfl⟩ | ⟨b1, o1, c1, rfl, -, hc1⟩
  · go_enter Try.func39, Try.ntmps39
    go_wp2
    refine wp_loop_rounds 1 ?_
    rw [rounds_succ]
    go_wp2
    go_ret
    exact ⟨-1, rfl, by simp, by omega, by omega, 0, rfl⟩
  · obtain ⟨n, hn⟩ : ∃ n, xs.length = n := ⟨_, rfl⟩
    rw [hn] at hm ⊢
    have HN := Lib.hid hn
    have H1 := Lib.hid hc1
    clear hn hc1
    go_enter Try.func39, Try.ntmps39
    go_wp2
    go_loopw [8] (fun i wr => ∃ k : Nat, k ≤ n ∧ i = .int .i64 k ∧ (∀ j, j < k → ∀ x, xs[j]? = some x → x ≠ h) ∧ ∃ m, wr = w.drewN m)
      (fun i _ => n - (intOf i).toNat)
    case atStart => exact ⟨0, by omega, rfl, fun j hj => by omega, 0, rfl⟩
    case round =>
      obtain ⟨k, hk, rfl, heq, m, rfl⟩ := hrel
      have HE := Lib.hid heq
      clear heq
      by_cases hlt : k < n
      · obtain ⟨x, hx⟩ : ∃ x, xs[k]? = some x := ⟨_, List.getElem?_eq_getElem (by have := HN.out; omega)⟩
        have d1 := H1.out k x hx
        have HX := Lib.hid hx
        clear hx
        by_cases hxy : h = x
        · subst hxy
          go_wp2
          go_ret
          refine ⟨k, rfl, ?_, by omega, by omega, _, rfl⟩
          have : h ∈ xs := List.mem_of_getElem? HX.out
          simp [this]
        · have hq : (h == x) = false := by simpa using hxy
          have HXY := Lib.hid hxy
          clear hxy
          go_wp2
          go_roundw
          case rel => exact ⟨k + 1, by omega, by go_num, fun j hj y hy => by
              by_cases e : j = k
              · rw [e, HX.out] at hy; injection hy with hy; exact fun e => HXY.out (by rw [← e, hy])
              · exact HE.out j (by omega) y hy, _, rfl⟩
          case measure => simp [intOf]; omega
      · go_wp2
        go_ret
        refine ⟨-1, rfl, ?_, by omega, by omega, _, rfl⟩
        have : h ∉ xs := fun hm => by
          obtain ⟨j, hj⟩ := List.getElem?_of_mem hm
          have := (List.getElem?_eq_some_iff.1 hj).1
          exact HE.out j (by have := HN.out; omega) h hj rfl
        simp [this]

set_option maxHeartbeats 400000 in
theorem contains_c (v1 : Value) (xs : List Int) (h : Int) (b : Bool) (w : World) (h1 : Ints w v1 xs) (hm : xs.length ≤ 1000000) (hb : xs.contains h = b) :
    Calls Try.prog 25 #[v1, .int .i64 h] w fun e w' => e = .returned (.bool b) ∧ ∃ n, w' = w.drewN n := by
  have HC := Lib.hid (index_c v1 xs h w h1 hm)
  have HB := Lib.hid hb
  clear h1 hm hb
  go_enter Try.func25, Try.ntmps25
  go_wp2_with fail
  refine HC.out.mono ?_
  rintro e w2 ⟨r, rfl, hr, hr1, hr2, n, rfl⟩
  rw [HB.out] at hr
  have HR := Lib.hid hr
  clear hr
  go_wp2
  go_ret
  refine ⟨?_, n, rfl⟩
  rw [← HR.out]
  rfl
end Go.Proofs.Ytokmjjjedljcpaa

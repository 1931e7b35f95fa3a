/- ArSlices: texts for the statements of this seat: contracts of functions, walks, plain laws. Conditions: none. -/
import Derived.Test.YtokmjjjedljcpaaProg
import Derived.Deep.QuietTactic
import Derived.BigQuiet
import Derived.WalkKit
import Derived.WalkSpells
import Derived.WalkLawsBesides
import Derived.Lib.Hide
import Derived.Test.YtokmjjjedljcpaaArBase
namespace Go.Proofs.Ytokmjjjedljcpaa
open Go.RowKit

/-- The slice v reads as the numbers xs (of one 64-bit kind). -/
def Ints (w : World) (v : Value) (xs : List Int) : Prop :=
  (v = .slice none 0 0 ∧ xs = []) ∨ ∃ b off cap, v = .slice (some ⟨b, off, none⟩) xs.length cap ∧ b < w.heap.size ∧ ∀ j x, xs[j]? = some x → w.cell? ⟨b, off + j, none⟩ = some (.int .i64 x)

theorem Ints.len {w : World} {v : Value} {xs : List Int} (h : Ints w v xs) : ∃ a cap, v = .slice a xs.length cap := by
  rcases h with ⟨rfl, rfl⟩ | ⟨b, off, cap, rfl, -⟩
  · exact ⟨none, 0, rfl⟩
  · exact ⟨_, cap, rfl⟩
theorem Ints.of_own {w : World} {base e : Nat} {v : Value} {xs : List Int} (h : w.ownsRow base e 1 v xs.length (xs.map (Value.int .i64))) : Ints w v xs := by
  rcases h.2 with ⟨rfl, h0⟩ | ⟨g, cap, cur, rfl, hg, hh, -⟩
  · exact .inl ⟨rfl, List.eq_nil_of_length_eq_zero h0⟩
  · refine .inr ⟨g, 0, cap, rfl, (Array.getElem?_eq_some_iff.1 hh).1, fun j x hx => ?_⟩
    rw [Nat.zero_add, h.cellAt j (by have := (List.getElem?_eq_some_iff.1 hx).1; omega), List.getElem?_map, hx]; rfl
theorem Ints.kept {S : Nat → Prop} {w w' : World} {v : Value} {xs : List Int} (h : Ints w v xs) (K : Kept S w w') (hS : ∀ b, v.ownBlock = some b → ¬ S b) : Ints w' v xs := by
  rcases h with h | ⟨b, off, cap, rfl, hb, hc⟩
  · exact .inl h
  · refine .inr ⟨b, off, cap, rfl, Nat.lt_of_lt_of_le hb K.size, fun j x hx => (K.cell (a := ⟨b, off + j, none⟩) hb (hS b rfl)).trans (hc j x hx)⟩

set_option maxHeartbeats 400000 in
theorem equal_c (v1 v2 : Value) (xs ys : List Int) (w : World) (h1 : Ints w v1 xs) (h2 : Ints w v2 ys) (hm : xs.length ≤ 1000000) (hm2 : ys.length ≤ 4611686018427387904) :
    Calls Try.prog 24 #[v1, v2] w fun e w' => e = .returned (.bool (decide (xs = ys))) ∧ ∃ n, w' = w.drewN n := by
  by_cases hl : xs.length = ys.length
  · rcases h1 with ⟨rfl, rfl⟩ | ⟨b1, o1, c1, rfl, -, hc1⟩
    · obtain ⟨a, cap, rfl⟩ := h2.len
      obtain rfl : ys = [] := List.eq_nil_of_length_eq_zero hl.symm
      go_enter Try.func24, Try.ntmps24
      go_wp2
      refine wp_loop_rounds 1 ?_
      rw [rounds_succ]
      go_wp2
      go_ret
      exact ⟨by simp, 0, rfl⟩
    · rcases h2 with ⟨rfl, rfl⟩ | ⟨b2, o2, c2, rfl, -, hc2⟩
      · obtain rfl : xs = [] := List.eq_nil_of_length_eq_zero hl
        go_enter Try.func24, Try.ntmps24
        go_wp2
        refine wp_loop_rounds 1 ?_
        rw [rounds_succ]
        go_wp2
        go_ret
        exact ⟨by simp, 0, rfl⟩
      · rw [← hl]
        obtain ⟨n, hn⟩ : ∃ n, xs.length = n := ⟨_, rfl⟩
        rw [hn] at hm ⊢
        have HN := Lib.hid hn
        have HL := Lib.hid hl
        have H1 := Lib.hid hc1
        have H2 := Lib.hid hc2
        clear hn hl hc1 hc2 hm2
        go_enter Try.func24, Try.ntmps24
        go_wp2
        go_loopw [13] (fun i wr => ∃ k : Nat, k ≤ n ∧ i = .int .i64 k ∧ (∀ j, j < k → xs[j]? = ys[j]?) ∧ ∃ m, wr = w.drewN m)
          (fun i _ => n - (intOf i).toNat)
        case atStart => exact ⟨0, by omega, rfl, fun j hj => by omega, 0, rfl⟩
        case round =>
          obtain ⟨k, hk, rfl, heq, m, rfl⟩ := hrel
          have HE := Lib.hid heq
          clear heq
          by_cases hlt : k < n
          · obtain ⟨x, hx⟩ : ∃ x, xs[k]? = some x := ⟨_, List.getElem?_eq_getElem (by have := HN.out; omega)⟩
            obtain ⟨y, hy⟩ : ∃ y, ys[k]? = some y := ⟨_, List.getElem?_eq_getElem (by have := HN.out; have := HL.out; omega)⟩
            have d1 := H1.out k x hx
            have d2 := H2.out k y hy
            have HX := Lib.hid hx
            have HY := Lib.hid hy
            clear hx hy
            by_cases hxy : x = y
            · subst hxy
              go_wp2
              go_quiet (fail)
              go_wp2
              go_roundw
              case rel => exact ⟨k + 1, by omega, by go_num, fun j hj => by
                by_cases e : j = k
                · rw [e, HX.out, HY.out]
                · exact HE.out j (by omega), _, rfl⟩
              case measure => simp [intOf]; omega
            · have hq : (x != y) = true := by simpa using hxy
              have HXY := Lib.hid hxy
              clear hxy
              go_wp2
              go_quiet (fail)
              go_wp2
              go_ret
              refine ⟨?_, _, World.drewN_drewN _ _ _⟩
              have : ¬ xs = ys := fun e => HXY.out (by have := HX.out; rw [e, HY.out] at this; exact (Option.some.inj this).symm)
              simp [this]
          · go_wp2
            go_ret
            refine ⟨?_, _, rfl⟩
            have : xs = ys := List.ext_getElem? fun j => by
              by_cases e : j < k
              · exact HE.out j e
              · rw [List.getElem?_eq_none (by have := HN.out; omega), List.getElem?_eq_none (by have := HN.out; have := HL.out; omega)]
            simp [this]
  · obtain ⟨a1, c1, rfl⟩ := h1.len
    obtain ⟨a2, c2, rfl⟩ := h2.len
    have hq : ((xs.length : Int) != ys.length) = true := by simp; omega
    have : ¬ xs = ys := fun e => hl (by rw [e])
    have HT := Lib.hid this
    clear this hl h1 h2
    go_enter Try.func24, Try.ntmps24
    go_wp2
    go_ret
    exact ⟨by simp [HT.out], 0, rfl⟩
end Go.Proofs.Ytokmjjjedljcpaa

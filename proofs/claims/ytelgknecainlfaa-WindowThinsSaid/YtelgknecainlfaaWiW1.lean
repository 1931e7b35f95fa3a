/- WiW1: texts for the statements of this seat: contracts of functions, walks, plain laws. Conditions: none. -/
import Derived.Test.YtelgknecainlfaaProg
import Derived.WalkKit
import Derived.WalkSpells
import Derived.WalkLawsBesides
import Derived.Lib.Hide
import Derived.Outline
import Derived.Deep.QuietTactic
import Derived.BigQuiet
import Derived.Test.YtelgknecainlfaaGeInts
import Derived.Test.YtelgknecainlfaaWiPlain
set_option linter.all false
/- Contracts of valid, in, Less, IsSorted, Check (both packages). -/
namespace Go.Proofs.Ytelgknecainlfaa
open Go.RowKit
open Wi (vld Srt chk)

theorem valid_c (t : Int) (w : World) : Calls Try.prog 45 #[.int .i64 t] w fun e w' => e = .returned (.bool (vld t)) ∧ w = w' := by
  by_cases h1 : 0 ≤ t
  · by_cases h2 : t ≤ 253402300799
    all_goals
      go_enter Try.func45, Try.ntmps45
      go_wp2
      go_ret
      exact ⟨by simp [vld, h1, h2], rfl⟩
  · go_enter Try.func45, Try.ntmps45
    go_wp2
    go_ret
    exact ⟨by simp [vld]; omega, rfl⟩
theorem valid_b (b : Bool) (t : Int) (w : World) (h : vld t = b) : Calls Try.prog 45 #[.int .i64 t] w fun e w' => e = .returned (.bool b) ∧ w = w' := h ▸ valid_c t w
theorem rtime_c (t : Int) (w : World) : Calls Try.prog 46 #[.int .i64 t] w fun e w' => e = .returned (.bool (vld t)) ∧ w = w' := by
  by_cases h1 : 0 ≤ t
  · by_cases h2 : t ≤ 253402300799
    all_goals
      go_enter Try.func46, Try.ntmps46
      go_wp2
      go_ret
      exact ⟨by simp [vld, h1, h2], rfl⟩
  · go_enter Try.func46, Try.ntmps46
    go_wp2
    go_ret
    exact ⟨by simp [vld]; omega, rfl⟩
theorem rtime_b (b : Bool) (t : Int) (w : World) (h : vld t = b) : Calls Try.prog 46 #[.int .i64 t] w fun e w' => e = .returned (.bool b) ∧ w = w' := h ▸ rtime_c t w
theorem nan67_c (x : Int) (w : World) : Calls Try.prog 67 #[.int .i64 x] w fun e w' => e = .returned (.bool false) ∧ w = w' := by
  go_enter Try.func67, Try.ntmps67
  go_wp2
  go_ret
  exact ⟨rfl, rfl⟩
theorem nan62_c (x : Int) (w : World) : Calls Try.prog 62 #[.int .i64 x] w fun e w' => e = .returned (.bool false) ∧ w = w' := by
  go_enter Try.func62, Try.ntmps62
  go_wp2
  go_ret
  exact ⟨rfl, rfl⟩
theorem less_c (x y : Int) (w : World) : Calls Try.prog 61 #[.int .i64 x, .int .i64 y] w fun e w' => e = .returned (.bool (decide (x < y))) ∧ w = w' := by
  by_cases h : x < y
  all_goals
    go_enter Try.func61, Try.ntmps61
    go_wp2_with (go_at_call 67; refine (nan67_c _ _).mono ?_; rintro e w' ⟨rfl, rfl⟩)
    go_ret
    exact ⟨by simp [h], rfl⟩
theorem less_b (b : Bool) (x y : Int) (w : World) (h : decide (x < y) = b) : Calls Try.prog 61 #[.int .i64 x, .int .i64 y] w fun e w' => e = .returned (.bool b) ∧ w = w' := h ▸ less_c x y w
theorem compare_c (x y : Int) (w : World) : Calls Try.prog 60 #[.int .i64 x, .int .i64 y] w fun e w' => e = .returned (.int .i64 (if x < y then -1 else if y < x then 1 else 0)) ∧ w = w' := by
  by_cases h : x < y
  · go_enter Try.func60, Try.ntmps60
    go_wp2_with (go_at_call 67; refine (nan67_c _ _).mono ?_; rintro e w' ⟨rfl, rfl⟩)
    go_ret
    exact ⟨by simp, rfl⟩
  · by_cases h2 : y < x
    all_goals
      go_enter Try.func60, Try.ntmps60
      go_wp2_with (go_at_call 67; refine (nan67_c _ _).mono ?_; rintro e w' ⟨rfl, rfl⟩)
      go_ret
      exact ⟨by simp, rfl⟩
theorem IntsK.at {k : IntKind} {w : World} {xs : List Int} {b off : Nat} (hc : ∀ j x, xs[j]? = some x → w.cell? ⟨b, off + j, none⟩ = some (.int k x)) {j : Nat} (hj : j < xs.length) : w.cell? ⟨b, off + j, none⟩ = some (.int k xs[j]) := hc j _ (List.getElem?_eq_getElem hj)
/-- In order: IsSorted goes from the end. -/
theorem srt_dec (l : List Int) : Srt l ∨ ∃ i x y, l[i]? = some x ∧ l[i + 1]? = some y ∧ y < x := by
  by_cases h : Srt l
  · exact .inl h
  · right
    simp only [Srt, Classical.not_forall] at h
    obtain ⟨i, x, y, h1, h2, h3⟩ := h
    exact ⟨i, x, y, h1, h2, by omega⟩
open Classical in
set_option maxHeartbeats 1000000 in
theorem sorted_c {w : World} {v : Value} {l : List Int} (h : Ints w v l) (hl : l.length ≤ 4611686018427387904) : Calls Try.prog 49 #[v] w fun e w' => e = .returned (.bool (decide (Srt l))) ∧ Kept (fun _ => False) w w' := by
  have HQ := Lib.hid h
  obtain ⟨a, cap, rfl⟩ := h.len
  obtain ⟨n, hn⟩ : ∃ n : Nat, n = l.length := ⟨_, rfl⟩
  rw [← hn] at hl ⊢
  have HN := Lib.hid hn
  clear h hn
  go_enter Try.func49, Try.ntmps49
  go_wp2
  go_loopw [3] (fun i wr => ∃ j : Nat, j ≤ n ∧ i = .int .i64 ((j : Int) - 1) ∧ (∀ k x y, j ≤ k + 1 → l[k]? = some x → l[k + 1]? = some y → x ≤ y) ∧ Kept (fun _ => False) w wr) (fun i _ => match i with | .int _ x => x.toNat | _ => 0)
  case atStart => exact ⟨n, Nat.le_refl _, rfl, fun k x y h1 _ h2 => by have := (List.getElem?_eq_some_iff.1 h2).1; have := HN.out; omega, Kept.refl _ _⟩
  case round =>
    obtain ⟨j, hj, rfl, hb, K⟩ := hrel
    have HB := Lib.hid hb
    have HK := Lib.hid K
    clear hb K
    by_cases hlt : 2 ≤ j
    · obtain ⟨k, rfl⟩ : ∃ k, j = k + 2 := ⟨j - 2, by omega⟩
      have h1 : k < l.length := by have := HN.out; omega
      have h2 : k + 1 < l.length := by have := HN.out; omega
      obtain ⟨b0, off, cap', hv, hb0, hcell⟩ := (HQ.out.same HK.out).pos (by omega)
      injection hv with e1 e2 e3
      subst e1 e3
      have c0 := IntsK.at hcell h1
      have c1 := IntsK.at hcell h2
      have HX : Hid (l[k]? = some l[k] ∧ l[k + 1]? = some l[k + 1]) := Lib.hid ⟨List.getElem?_eq_getElem h1, List.getElem?_eq_getElem h2⟩
      clear hcell
      generalize l[k] = x at c0 HX
      generalize l[k + 1] = y at c1 HX
      have e1 : ((k + 2 : Nat) : Int) - 1 = ((k + 1 : Nat) : Int) := by omega
      have e2 : ((k + 1 : Nat) : Int) - 1 = (k : Int) := by omega
      rw [e1]
      cases hyx : decide (y < x) with
      | true =>
        have HR : Hid (decide (Srt l) = false) := Lib.hid (by
          simp only [decide_eq_false_iff_not]
          intro hs
          have := hs k x y HX.out.1 HX.out.2
          simp at hyx
          omega)
        have HLT := Lib.hid hyx
        clear hyx
        go_wp2
        go_quiet (first | (go_at_call 61; exact Calls.quiet_of_same ((less_b true y x _ HLT.out).mono fun e w' h => ⟨h.1, h.2.symm⟩)))
        go_wp2
        go_ret
        exact ⟨by rw [HR.out]; rfl, HK.out.drewN _⟩
      | false =>
        have HB2 : Hid (∀ i u v, k + 1 ≤ i + 1 → l[i]? = some u → l[i + 1]? = some v → u ≤ v) := Lib.hid fun i u v hi hu hv => by
          by_cases hik : i = k
          · subst hik
            rw [HX.out.1] at hu
            rw [HX.out.2] at hv
            injection hu with hu
            injection hv with hv
            have hge := of_decide_eq_false hyx
            omega
          · exact HB.out i u v (by omega) hu hv
        have HLT := Lib.hid hyx
        clear hyx
        go_wp2
        go_quiet (first | (go_at_call 61; exact Calls.quiet_of_same ((less_b false y x _ HLT.out).mono fun e w' h => ⟨h.1, h.2.symm⟩)))
        go_wp2
        go_roundw
        case rel => exact ⟨k + 1, by omega, by go_num, HB2.out, HK.out.drewN _⟩
        case measure => simp
    · have HR : Hid (decide (Srt l) = true) := Lib.hid (by
        simp only [decide_eq_true_eq]
        exact fun i x y hx hy => HB.out i x y (by omega) hx hy)
      have hneg : ¬ (0 : Int) < (j : Int) - 1 := by omega
      go_wp2
      go_ret
      exact ⟨by rw [HR.out]; rfl, HK.out⟩
end Go.Proofs.Ytelgknecainlfaa

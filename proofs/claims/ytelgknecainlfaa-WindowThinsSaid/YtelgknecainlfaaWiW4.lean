/- WiW4: texts for the statements of this seat: contracts of functions, walks, plain laws. Conditions: none. -/
import Derived.Test.YtelgknecainlfaaWiW3
import Derived.Test.YtelgknecainlfaaGeRow
set_option linter.all false
/- policy.CheckLimit; both. -/
namespace Go.Proofs.Ytelgknecainlfaa
open Go.RowKit
open Wi (vld Srt chk limB limE inS)

/-- Three Booleans in a block. -/
structure B3 (w : World) (D : Nat) (p q r : Bool) : Prop where
  c0 : w.cell? ⟨D, 0, none⟩ = some (.bool p)
  c1 : w.cell? ⟨D, 1, none⟩ = some (.bool q)
  c2 : w.cell? ⟨D, 2, none⟩ = some (.bool r)
theorem B3.get {w : World} {D : Nat} {p q r : Bool} (h : B3 w D p q r) (j : Nat) (hj : j < 3) : w.cell? ⟨D, j, none⟩ = some (.bool (if j = 0 then p else if j = 1 then q else r)) := by
  match j with
  | 0 => exact h.c0
  | 1 => exact h.c1
  | 2 => exact h.c2
theorem index69_c {w : World} {D : Nat} {p q r : Bool} (h : B3 w D p q r) : Calls Try.prog 69 #[.slice (some ⟨D, 0, none⟩) 3 3, .bool false] w fun e w' => (∃ i : Int, e = .returned (.int .i64 i) ∧ decide (i ≥ 0) = !(p && q && r)) ∧ w = w' := by
  have HC := Lib.hid h.get
  clear h
  go_enter Try.func69, Try.ntmps69
  go_wp2
  go_loopw [8] (fun i wr => ∃ j : Nat, j ≤ 3 ∧ i = .int .i64 j ∧ (0 < j → p = true) ∧ (1 < j → q = true) ∧ (2 < j → r = true) ∧ w = wr) (fun i _ => match i with | .int _ x => (3 - x).toNat | _ => 0)
  case atStart => exact ⟨0, by omega, rfl, fun h => absurd h (by omega), fun h => absurd h (by omega), fun h => absurd h (by omega), rfl⟩
  case round =>
    obtain ⟨j, hj, rfl, h0, h1, h2, rfl⟩ := hrel
    have H := Lib.hid (And.intro h0 (And.intro h1 h2))
    clear h0 h1 h2
    by_cases hlt : j < 3
    · have c0 := HC.out j hlt
      obtain ⟨z, hz⟩ : ∃ z, (if j = 0 then p else if j = 1 then q else r) = z := ⟨_, rfl⟩
      rw [hz] at c0
      have HZ := Lib.hid hz
      clear hz
      cases z with
      | false =>
        have HR : Hid ((!(p && q && r)) = true) := Lib.hid (by
          have := HZ.out
          match j with
          | 0 => simp at this; simp [this]
          | 1 => simp at this; simp [this]
          | 2 => simp at this; simp [this])
        go_wp2
        go_ret
        exact ⟨⟨j, rfl, by rw [HR.out]; simp⟩, rfl⟩
      | true =>
        have HR : Hid ((0 < j + 1 → p = true) ∧ (1 < j + 1 → q = true) ∧ (2 < j + 1 → r = true)) := Lib.hid (by
          have := HZ.out
          have ⟨h0, h1, h2⟩ := H.out
          match j with
          | 0 => simp at this; exact ⟨fun _ => this, fun h => absurd h (by omega), fun h => absurd h (by omega)⟩
          | 1 => simp at this; exact ⟨fun _ => h0 (by omega), fun _ => this, fun h => absurd h (by omega)⟩
          | 2 => simp at this; exact ⟨fun _ => h0 (by omega), fun _ => h1 (by omega), fun _ => this⟩)
        go_wp2
        go_roundw
        case rel => exact ⟨j + 1, by omega, by go_num, HR.out.1, HR.out.2.1, HR.out.2.2, trivial⟩
        case measure => simp; omega
    · have HR : Hid ((!(p && q && r)) = false) := Lib.hid (by rw [H.out.1 (by omega), H.out.2.1 (by omega), H.out.2.2 (by omega)]; rfl)
      go_wp2
      go_ret
      exact ⟨⟨-1, rfl, by rw [HR.out]; rfl⟩, rfl⟩
theorem contains64_c {w : World} {D : Nat} {p q r : Bool} (h : B3 w D p q r) : Calls Try.prog 64 #[.slice (some ⟨D, 0, none⟩) 3 3, .bool false] w fun e w' => e = .returned (.bool (!(p && q && r))) ∧ w = w' := by
  have HI := Lib.hid (index69_c h)
  clear h
  generalize (!(p && q && r)) = bb at HI ⊢
  go_enter Try.func64, Try.ntmps64
  go_wp2_with (go_at_call 69; refine HI.out.mono ?_; rintro e w' ⟨⟨i, rfl, hi⟩, rfl⟩; have HH := Lib.hid hi; clear hi)
  go_ret
  exact ⟨by rw [← HH.out]; rfl, rfl⟩
theorem rule_c {w : World} {D : Nat} {p q r : Bool} (h : B3 w D p q r) : Calls Try.prog 55 #[.slice (some ⟨D, 0, none⟩) 3 3] w fun e w' => e = .returned (.int .i64 (if (p && q && r) = true then 0 else 16)) ∧ w = w' := by
  have HI := Lib.hid (contains64_c h)
  clear h
  cases hb : p && q && r with
  | true =>
    rw [hb] at HI
    clear hb
    go_enter Try.func55, Try.ntmps55
    go_wp2_with (go_at_call 64; refine HI.out.mono ?_; rintro e w' ⟨rfl, rfl⟩)
    go_ret
    exact ⟨rfl, rfl⟩
  | false =>
    rw [hb] at HI
    clear hb
    go_enter Try.func55, Try.ntmps55
    go_wp2_with (go_at_call 64; refine HI.out.mono ?_; rintro e w' ⟨rfl, rfl⟩)
    go_ret
    exact ⟨rfl, rfl⟩
theorem rule_n (W : World) (p q r : Bool) (t : Nat) : Calls Try.prog 55 #[.slice (some ⟨W.heap.size, 0, none⟩) 3 3] (W.alloc (.cells #[.bool p, .bool q, .bool r] t)) fun e w' => e = .returned (.int .i64 (if (p && q && r) = true then 0 else 16)) ∧ W.alloc (.cells #[.bool p, .bool q, .bool r] t) = w' :=
  rule_c ⟨by rw [World.cell?_alloc_at _ _ _ _ rfl]; rfl, by rw [World.cell?_alloc_at _ _ _ _ rfl]; rfl, by rw [World.cell?_alloc_at _ _ _ _ rfl]; rfl⟩
set_option maxRecDepth 100000 in
set_option maxHeartbeats 2000000 in
theorem limit_c (T U : Int) (w : World) : Calls Try.prog 37 #[.agg #[.int .i64 T, .int .i64 U]] w (LimPost T U w) := by
  have HA : Hid (∀ W, Calls Try.prog 56 #[.int .i64 T, .int .i64 0, .int .i64 68719476736] W fun e w' => e = .returned (.bool (inS T)) ∧ w' = W) := Lib.hid fun W => (in56_c T W).mono fun e w' h => ⟨h.1, h.2.symm⟩
  have HB : Hid (∀ W, Calls Try.prog 56 #[.int .i64 U, .int .i64 0, .int .i64 68719476736] W fun e w' => e = .returned (.bool (inS U)) ∧ w' = W) := Lib.hid fun W => (in56_c U W).mono fun e w' h => ⟨h.1, h.2.symm⟩
  have HE : Hid (limE T U = if (inS T && inS U && (decide (0 < T) || decide (U = 0))) = true then 0 else 16) := Lib.hid rfl
  generalize inS T = p at HA HE
  generalize inS U = q at HB HE
  go_enter Try.func37, Try.ntmps37
  go_wp2_with fail
  have row := (RowAt.new w 23 #[.int .i64 T, .int .i64 U]).same ((Kept.refl _ _).drew)
  have HKW := Lib.hid (((Kept.refl (fun _ => False) w).alloc (.cells #[.int .i64 T, .int .i64 U] 23)).drew)
  have c0 := row.get (j := 0) rfl
  have c1 := row.get (j := 1) rfl
  by_cases h0 : 0 < T
  · have hd : decide (0 < T) = true := decide_eq_true h0
    rw [hd] at HE
    refine wp_region_still_tail 14 (by kernel_rfl) (by kernel_rfl) ?_
    simp only [List.take_succ_cons, List.take_zero, List.drop_succ_cons, List.drop_zero]
    change wpStill _ _ (World.drew _) (fun a' => wpList _ _ _ _ a' (World.drew _)) _ _
    generalize (w.alloc (.cells #[.int .i64 T, .int .i64 U] 23)).drew = W at c0 c1 HKW ⊢
    still_step
    still_step
    still_call (HA.out W)
    still_step
    still_step
    still_call (HB.out W)
    iterate 8 still_step
    refine wpStill_nil ?_
    have HR : Hid (∀ t, Calls Try.prog 55 #[.slice (some ⟨W.heap.size, 0, none⟩) 3 3] (W.alloc (.cells #[.bool p, .bool q, .bool true] t)) fun e w' => e = .returned (.int .i64 (limE T U)) ∧ W.alloc (.cells #[.bool p, .bool q, .bool true] t) = w') := Lib.hid fun t => by
      have h := rule_n W p q true t
      rw [HE.out]
      simpa using h
    go_wp2_with (go_at_call 55; refine (HR.out _).mono ?_; rintro e w' ⟨rfl, rfl⟩)
    go_ret
    exact ⟨rfl, HKW.out.alloc _⟩
  · have hd : decide (0 < T) = false := decide_eq_false h0
    rw [hd] at HE
    cases hu : decide (U = 0) with
    | true =>
      have hd2 : decide (U = 0) = true := hu
      have hb2 : (U == 0) = true := hu
      rw [hd2, Bool.false_or] at HE
      refine wp_region_still_tail 14 (by kernel_rfl) (by kernel_rfl) ?_
      simp only [List.take_succ_cons, List.take_zero, List.drop_succ_cons, List.drop_zero]
      change wpStill _ _ (World.drew _) (fun a' => wpList _ _ _ _ a' (World.drew _)) _ _
      generalize (w.alloc (.cells #[.int .i64 T, .int .i64 U] 23)).drew = W at c0 c1 HKW ⊢
      still_step
      still_step
      still_call (HA.out W)
      still_step
      still_step
      still_call (HB.out W)
      iterate 8 still_step
      refine wpStill_nil ?_
      have HR : Hid (∀ t, Calls Try.prog 55 #[.slice (some ⟨W.heap.size, 0, none⟩) 3 3] (W.alloc (.cells #[.bool p, .bool q, .bool true] t)) fun e w' => e = .returned (.int .i64 (limE T U)) ∧ W.alloc (.cells #[.bool p, .bool q, .bool true] t) = w') := Lib.hid fun t => by
        have h := rule_n W p q true t
        rw [HE.out]
        exact h
      go_wp2_with (go_at_call 55; refine (HR.out _).mono ?_; rintro e w' ⟨rfl, rfl⟩)
      go_ret
      exact ⟨rfl, HKW.out.alloc _⟩

    | false =>
      have hd2 : decide (U = 0) = false := hu
      have hb2 : (U == 0) = false := hu
      rw [hd2, Bool.false_or] at HE
      refine wp_region_still_tail 14 (by kernel_rfl) (by kernel_rfl) ?_
      simp only [List.take_succ_cons, List.take_zero, List.drop_succ_cons, List.drop_zero]
      change wpStill _ _ (World.drew _) (fun a' => wpList _ _ _ _ a' (World.drew _)) _ _
      generalize (w.alloc (.cells #[.int .i64 T, .int .i64 U] 23)).drew = W at c0 c1 HKW ⊢
      still_step
      still_step
      still_call (HA.out W)
      still_step
      still_step
      still_call (HB.out W)
      iterate 8 still_step
      refine wpStill_nil ?_
      have HR : Hid (∀ t, Calls Try.prog 55 #[.slice (some ⟨W.heap.size, 0, none⟩) 3 3] (W.alloc (.cells #[.bool p, .bool q, .bool false] t)) fun e w' => e = .returned (.int .i64 (limE T U)) ∧ W.alloc (.cells #[.bool p, .bool q, .bool false] t) = w') := Lib.hid fun t => by
        have h := rule_n W p q false t
        rw [HE.out]
        exact h
      go_wp2_with (go_at_call 55; refine (HR.out _).mono ?_; rintro e w' ⟨rfl, rfl⟩)
      go_ret
      exact ⟨rfl, HKW.out.alloc _⟩

end Go.Proofs.Ytelgknecainlfaa

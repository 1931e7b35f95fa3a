/- WiW3: texts for the statements of this seat: contracts of functions, walks, plain laws. Conditions: none. -/
import Derived.StillTailTactics
import Derived.Test.YtelgknecainlfaaWiW2
set_option linter.all false
/- Contracts of the reference's Check; CheckLimit (both packages), both. -/
namespace Go.Proofs.Ytelgknecainlfaa
open Go.RowKit
open Wi (vld Srt chk limB limE inS)

theorem get_of {l : List Int} {j : Nat} (h : j < l.length) : l[j]? = some l[j] := List.getElem?_eq_getElem h
open Classical in
set_option maxHeartbeats 1000000 in
theorem rcheck_c {w : World} {v : Value} {l : List Int} (h : Ints w v l) (hl : l.length ≤ 4611686018427387904) : Calls Try.prog 32 #[v] w (ChkPost l w) := by
  have HQ := Lib.hid h
  obtain ⟨a, cap, rfl⟩ := h.len
  obtain ⟨n, hn⟩ : ∃ n : Nat, n = l.length := ⟨_, rfl⟩
  rw [← hn] at hl HQ ⊢
  have HN := Lib.hid hn
  clear h hn
  by_cases h1 : 100000 < n
  · have HE := Lib.hid (Wi.chk_many (l := l) (by have := HN.out; omega))
    have h1' : (100000 : Int) < (n : Int) := by omega
    go_enter Try.func32, Try.ntmps32
    go_wp2
    go_ret
    exact ⟨by rw [HE.out]; rfl, Kept.refl _ _⟩
  · have h1' : ¬ (100000 : Int) < (n : Int) := by omega
    have HL : Hid (¬ 100000 < l.length) := Lib.hid (by have := HN.out; omega)
    go_enter Try.func32, Try.ntmps32
    go_wp2
    go_loopw [3] (fun i wr => ∃ k : Nat, k ≤ n ∧ i = .int .i64 k ∧ (∀ q x, q < k → l[q]? = some x → vld x = true) ∧ w = wr) (fun i _ => match i with | .int _ x => (n - x).toNat | _ => 0)
    case atStart => exact ⟨0, Nat.zero_le _, rfl, fun k s hk _ => absurd hk (by omega), rfl⟩
    case round =>
      obtain ⟨k, hk, rfl, hb2, rfl⟩ := hrel
      have HB2 := Lib.hid hb2
      clear hb2
      by_cases hlt2 : k < n
      · have hks : k < l.length := by have := HN.out; omega
        obtain ⟨b0, off, cap', hv, hb0, hcell⟩ := HQ.out.pos (by omega)
        rw [← HN.out] at hv
        injection hv with e1 e2 e3
        subst e1 e3
        have c0 := IntsK.at hcell hks
        have HX := Lib.hid (get_of hks)
        clear hcell
        generalize l[k] = x at c0 HX
        cases hv : vld x with
        | true =>
          have HB3 : Hid (∀ q y, q < k + 1 → l[q]? = some y → vld y = true) := Lib.hid fun q y hq hy => by
            by_cases e : q = k
            · subst e; rw [HX.out] at hy; injection hy with hy; rw [← hy]; exact hv
            · exact HB2.out q y (by omega) hy
          have HV := Lib.hid hv
          clear hv
          go_wp2_with (go_at_call 46; refine (rtime_b true _ _ HV.out).mono ?_; rintro e w' ⟨rfl, rfl⟩)
          go_roundw
          case rel => exact ⟨k + 1, by omega, by go_num, HB3.out, trivial⟩
          case measure => simp; omega
        | false =>
          have HE : Hid (chk l = 14) := Lib.hid (Wi.chk_time HL.out (by
            cases ha : l.all vld with
            | false => rfl
            | true =>
              have := List.all_eq_true.1 ha x (List.mem_of_getElem? HX.out)
              rw [hv] at this; cases this))
          have HV := Lib.hid hv
          clear hv
          go_wp2_with (go_at_call 46; refine (rtime_b false _ _ HV.out).mono ?_; rintro e w' ⟨rfl, rfl⟩)
          go_ret
          exact ⟨by rw [HE.out]; rfl, Kept.refl _ _⟩
      · have HA : Hid (l.all vld = true) := Lib.hid (List.all_eq_true.2 fun x hx => by
          obtain ⟨i, hi⟩ := List.getElem?_of_mem hx
          exact HB2.out i x (by have := (List.getElem?_eq_some_iff.1 hi).1; have := HN.out; omega) hi)
        go_wp2
        go_loopw [4] (fun i wr => ∃ k : Nat, (k + 1 ≤ n ∨ k = 0) ∧ i = .int .i64 ((k + 1 : Nat) : Int) ∧ (∀ i x y, i < k → l[i]? = some x → l[i + 1]? = some y → x ≤ y) ∧ Kept (fun _ => False) w wr) (fun i _ => match i with | .int _ x => (n - x).toNat | _ => 0)
        case atStart => exact ⟨0, .inr rfl, rfl, fun i x y hi _ _ => absurd hi (by omega), Kept.refl _ _⟩
        case round =>
          obtain ⟨k, hk, rfl, hs, K⟩ := hrel
          have HS := Lib.hid hs
          have HK := Lib.hid K
          clear hs K HB2
          by_cases hlt2 : k + 1 < n
          · have h0 : k < l.length := by have := HN.out; omega
            have h2 : k + 1 < l.length := by have := HN.out; omega
            obtain ⟨b0, off, cap', hv, hb0, hcell⟩ := (HQ.out.same HK.out).pos (by omega)
            rw [← HN.out] at hv
            injection hv with e1 e2 e3
            subst e1 e3
            have c0 := IntsK.at hcell h0
            have c1 := IntsK.at hcell h2
            have HX := Lib.hid (And.intro (get_of h0) (get_of h2))
            clear hcell
            generalize l[k] = x at c0 HX
            generalize l[k + 1] = y at c1 HX
            have e1 : ((k + 1 : Nat) : Int) - 1 = (k : Int) := by omega
            by_cases hyx : y < x
            · have HE : Hid (chk l = 8) := Lib.hid (Wi.chk_order HL.out HA.out (fun q => by have := q k x y HX.out.1 HX.out.2; omega))
              go_wp2
              go_quiet (fail)
              go_wp2
              go_ret
              exact ⟨by rw [HE.out]; rfl, HK.out.drewN _⟩
            · have HS2 : Hid (∀ i u v, i < k + 1 → l[i]? = some u → l[i + 1]? = some v → u ≤ v) := Lib.hid fun i u v hi hu hv => by
                by_cases e : i = k
                · subst e
                  rw [HX.out.1] at hu
                  rw [HX.out.2] at hv
                  injection hu with hu
                  injection hv with hv
                  omega
                · exact HS.out i u v (by omega) hu hv
              have hle : x ≤ y := by omega
              go_wp2
              go_quiet (fail)
              go_wp2
              go_roundw
              case rel => exact ⟨k + 1, by omega, by go_num, HS2.out, HK.out.drewN _⟩
              case measure => simp; omega
          · have HE : Hid (chk l = 0) := Lib.hid (Wi.chk_ok HL.out HA.out (fun i x y hx hy => HS.out i x y (by have := (List.getElem?_eq_some_iff.1 hy).1; have := HN.out; omega) hx hy))
            have hlt3 : ¬ ((k + 1 : Nat) : Int) < (n : Int) := by omega
            go_wp2
            go_ret
            exact ⟨by rw [HE.out]; rfl, HK.out⟩
theorem in56_c (x : Int) (w : World) : Calls Try.prog 56 #[.int .i64 x, .int .i64 0, .int .i64 68719476736] w fun e w' => e = .returned (.bool (inS x)) ∧ w = w' := by
  by_cases h1 : 0 ≤ x
  · by_cases h2 : x ≤ 68719476736
    all_goals
      go_enter Try.func56, Try.ntmps56
      go_wp2
      go_ret
      exact ⟨by simp [inS, h1, h2], rfl⟩
  · go_enter Try.func56, Try.ntmps56
    go_wp2
    go_ret
    exact ⟨by simp [inS]; omega, rfl⟩
theorem in57_c (x : Int) (w : World) : Calls Try.prog 57 #[.int .i64 x, .int .i64 0, .int .i64 68719476736] w fun e w' => e = .returned (.bool (inS x)) ∧ w = w' := by
  by_cases h1 : 0 ≤ x
  · by_cases h2 : x ≤ 68719476736
    all_goals
      go_enter Try.func57, Try.ntmps57
      go_wp2
      go_ret
      exact ⟨by simp [inS, h1, h2], rfl⟩
  · go_enter Try.func57, Try.ntmps57
    go_wp2
    go_ret
    exact ⟨by simp [inS]; omega, rfl⟩
theorem in57_b (b : Bool) (x : Int) (w : World) (h : inS x = b) : Calls Try.prog 57 #[.int .i64 x, .int .i64 0, .int .i64 68719476736] w fun e w' => e = .returned (.bool b) ∧ w = w' := h ▸ in57_c x w
theorem in56_b (b : Bool) (x : Int) (w : World) (h : inS x = b) : Calls Try.prog 56 #[.int .i64 x, .int .i64 0, .int .i64 68719476736] w fun e w' => e = .returned (.bool b) ∧ w = w' := h ▸ in56_c x w
def LimPost (T U : Int) (w : World) (e : Ending) (w' : World) : Prop := e = .returned (.int .i64 (limE T U)) ∧ Kept (fun _ => False) w w'
theorem inS_false {x : Int} (h : inS x = false) : x < 0 ∨ 68719476736 < x := by simp [inS] at h; omega
set_option maxHeartbeats 1000000 in
theorem rlimit_c (T U : Int) (w : World) : Calls Try.prog 39 #[.agg #[.int .i64 T, .int .i64 U]] w (LimPost T U w) := by
  have HK : Hid (∀ t, Kept (fun _ => False) w (w.alloc (.cells #[.int .i64 T, .int .i64 U] t))) := Lib.hid fun t => (Kept.refl _ _).alloc _
  cases hT : inS T with
  | false =>
    have HT := Lib.hid hT
    have HE : Hid (limE T U = 16) := Lib.hid (by unfold limE limB; rw [hT]; rfl)
    clear hT
    go_enter Try.func39, Try.ntmps39
    go_wp2_with (go_at_call 57; refine (in57_b false T _ HT.out).mono ?_; rintro e w' ⟨rfl, rfl⟩)
    go_ret
    exact ⟨by rw [HE.out]; rfl, HK.out _⟩
  | true =>
    cases hU : inS U with
    | false =>
      have HT := Lib.hid hT
      have HU := Lib.hid hU
      have HE : Hid (limE T U = 16) := Lib.hid (by unfold limE limB; rw [hT, hU]; rfl)
      clear hT hU
      go_enter Try.func39, Try.ntmps39
      go_wp2_with (go_at_call 57; fail)
      refine (in57_b true T _ HT.out).mono ?_
      rintro e w' ⟨rfl, rfl⟩
      go_wp2_with (go_at_call 57; fail)
      refine (in57_b false U _ HU.out).mono ?_
      rintro e w' ⟨rfl, rfl⟩
      go_wp2
      go_ret
      exact ⟨by rw [HE.out]; rfl, HK.out _⟩
    | true =>
      have HT := Lib.hid hT
      have HU := Lib.hid hU
      have hT0 : 0 ≤ T := (Wi.inS_iff.1 hT).1
      by_cases h0 : T = 0
      · subst h0
        by_cases h1 : U = 0
        · subst h1
          have HE : Hid (limE 0 0 = 0) := Lib.hid (by decide)
          clear hT hU
          go_enter Try.func39, Try.ntmps39
          go_wp2_with (go_at_call 57; fail)
          refine (in57_b true 0 _ HT.out).mono ?_
          rintro e w' ⟨rfl, rfl⟩
          go_wp2_with (go_at_call 57; fail)
          refine (in57_b true 0 _ HU.out).mono ?_
          rintro e w' ⟨rfl, rfl⟩
          go_wp2
          go_ret
          exact ⟨by rw [HE.out]; rfl, HK.out _⟩
        · have HE : Hid (limE 0 U = 16) := Lib.hid (by unfold limE limB; rw [hT, hU, decide_eq_false (by omega : ¬ (0 : Int) < 0), decide_eq_false h1]; rfl)
          clear hT hU
          go_enter Try.func39, Try.ntmps39
          go_wp2_with (go_at_call 57; fail)
          refine (in57_b true 0 _ HT.out).mono ?_
          rintro e w' ⟨rfl, rfl⟩
          go_wp2_with (go_at_call 57; fail)
          refine (in57_b true U _ HU.out).mono ?_
          rintro e w' ⟨rfl, rfl⟩
          go_wp2
          go_ret
          exact ⟨by rw [HE.out]; rfl, HK.out _⟩
      · have HE : Hid (limE T U = 0) := Lib.hid (by unfold limE limB; rw [hT, hU, decide_eq_true (by omega : 0 < T)]; rfl)
        clear hT hU
        go_enter Try.func39, Try.ntmps39
        go_wp2_with (go_at_call 57; fail)
        refine (in57_b true T _ HT.out).mono ?_
        rintro e w' ⟨rfl, rfl⟩
        go_wp2_with (go_at_call 57; fail)
        refine (in57_b true U _ HU.out).mono ?_
        rintro e w' ⟨rfl, rfl⟩
        go_wp2
        go_ret
        exact ⟨by rw [HE.out]; rfl, HK.out _⟩
end Go.Proofs.Ytelgknecainlfaa

/- WiRuns: texts for the statements of this seat: contracts of functions, walks, plain laws. Conditions: none. -/
import Derived.Test.YtelgknecainlfaaWiAt
set_option linter.all false
/- Which error runs have: the reference's runs. -/
namespace Go.Proofs.Ytelgknecainlfaa
open Go.RowKit
open Wi (vld Srt chk longE)

def backB (p : Int × Int) : Bool := decide (p.2 < p.1)
def runsE (f g : List Int) : Int := if 100000 < f.length then 12 else if f.length ≠ g.length then 2 else if (f.all vld && g.all vld) = true then (if (f.zip g).any backB = true then 8 else 0) else 14
theorem runsE_time {f g : List Int} (h1 : ¬ 100000 < f.length) (h2 : f.length = g.length) (h3 : (f.all vld && g.all vld) = false) : runsE f g = 14 := by
  unfold runsE; rw [if_neg h1, if_neg (by simp [h2]), if_neg (by simp [h3])]
theorem runsE_ord {f g : List Int} (h1 : ¬ 100000 < f.length) (h2 : f.length = g.length) (h3 : (f.all vld && g.all vld) = true) : runsE f g = if (f.zip g).any backB = true then 8 else 0 := by
  unfold runsE; rw [if_neg h1, if_neg (by simp [h2]), if_pos h3]
theorem all_bad {f : List Int} {j : Nat} {x : Int} (h : f[j]? = some x) (hv : vld x = false) : f.all vld = false := by
  cases e : f.all vld with
  | false => rfl
  | true => have := List.all_eq_true.1 e x (List.mem_of_getElem? h); rw [hv] at this; cases this
theorem all_good {f : List Int} {n : Nat} (hn : n = f.length) (h : ∀ q x, q < n → f[q]? = some x → vld x = true) : f.all vld = true := by
  refine List.all_eq_true.2 fun x hx => ?_
  obtain ⟨i, hi⟩ := List.getElem?_of_mem hx
  exact h i x (by have := (List.getElem?_eq_some_iff.1 hi).1; omega) hi
theorem runs_step {f : List Int} {j : Nat} {x : Int} (hx : f[j]? = some x) (hv : vld x = true) (h : ∀ q y, q < j → f[q]? = some y → vld y = true) : ∀ q y, q < j + 1 → f[q]? = some y → vld y = true := fun q y hq hy => by
  by_cases e : q = j
  · subst e; rw [hx] at hy; injection hy with hy; rw [← hy]; exact hv
  · exact h q y (by omega) hy
set_option maxRecDepth 100000 in
set_option maxHeartbeats 4000000 in
theorem runs_c {w : World} {v u : Value} {f g : List Int} (h : Ints w v f) (k : Ints w u g) (hl : f.length ≤ 4611686018427387904) (hl2 : g.length ≤ 4611686018427387904) : Calls Try.prog 43 #[v, u] w fun e w' => e = .returned (.int .i64 (runsE f g)) ∧ Kept (fun _ => False) w w' := by
  have HQ := Lib.hid h
  have HP := Lib.hid k
  obtain ⟨aa, cap, rfl⟩ := h.len
  obtain ⟨ab, cbp, rfl⟩ := k.len
  obtain ⟨n, hn⟩ : ∃ n : Nat, n = f.length := ⟨_, rfl⟩
  obtain ⟨m, hm⟩ : ∃ m : Nat, m = g.length := ⟨_, rfl⟩
  rw [← hn] at hl HQ ⊢
  rw [← hm] at hl2 HP ⊢
  have HN := Lib.hid hn
  have HM := Lib.hid hm
  clear h k hn hm
  by_cases h1 : (100000 : Int) < (n : Int)
  · have HE : Hid (runsE f g = 12) := Lib.hid (by unfold runsE; rw [if_pos (by have := HN.out; omega)])
    go_enter Try.func43, Try.ntmps43
    go_wp2
    go_ret
    exact ⟨by rw [HE.out]; rfl, Kept.refl _ _⟩
  by_cases h2 : n = m
  · subst h2
    have HFG : Hid (f.length = g.length ∧ ¬ 100000 < f.length) := Lib.hid ⟨by have := HN.out; have := HM.out; omega, by have := HN.out; omega⟩
    go_enter Try.func43, Try.ntmps43
    go_wp2
    go_loopw [5] (fun jv wr => ∃ (j : Nat), j ≤ n ∧ jv = .int .i64 j ∧ (∀ q x, q < j → f[q]? = some x → vld x = true) ∧ w = wr) (fun i _ => match i with | .int _ x => (n - x).toNat | _ => 0)
    case atStart => exact ⟨0, Nat.zero_le _, rfl, fun q x h => absurd h (by omega), rfl⟩
    case round =>
      obtain ⟨j, hj, rfl, hb, rfl⟩ := hrel
      have HB := Lib.hid hb
      clear hb
      by_cases hlt : j < n
      · have hjl : j < f.length := by have := HN.out; omega
        obtain ⟨b0, off, cap', hv, hb0, hcell⟩ := HQ.out.pos (by have := HN.out; omega)
        rw [← HN.out] at hv
        injection hv with e1 e2 e3
        subst e1 e3
        have c0 := IntsK.at hcell hjl
        clear hcell
        have HX := Lib.hid (get_of hjl)
        generalize f[j] = x at c0 HX
        cases hv : vld x with
        | true =>
          have HV := Lib.hid (fun W => rtime_b true x W hv)
          have HB2 := Lib.hid (runs_step HX.out hv HB.out)
          clear hv
          go_wp2_with (go_at_call 46; refine (HV.out _).mono ?_; rintro e w' ⟨rfl, rfl⟩)
          go_roundw
          case rel => exact ⟨j + 1, by omega, by go_num, HB2.out, trivial⟩
          case measure => simp; omega
        | false =>
          have HV := Lib.hid (fun W => rtime_b false x W hv)
          have HE : Hid (runsE f g = 14) := Lib.hid (runsE_time HFG.out.2 HFG.out.1 (by rw [all_bad HX.out hv]; rfl))
          clear hv
          go_wp2_with (go_at_call 46; refine (HV.out _).mono ?_; rintro e w' ⟨rfl, rfl⟩)
          go_ret
          exact ⟨by rw [HE.out]; rfl, Kept.refl _ _⟩
      · have HFA := Lib.hid (all_good HN.out (fun q x hq hx => HB.out q x (by omega) hx))
        clear HB
        go_wp2
        go_loopw [6] (fun jv wr => ∃ (j : Nat), j ≤ n ∧ jv = .int .i64 j ∧ (∀ q x, q < j → g[q]? = some x → vld x = true) ∧ w = wr) (fun i _ => match i with | .int _ x => (n - x).toNat | _ => 0)
        case atStart => exact ⟨0, Nat.zero_le _, rfl, fun q x h => absurd h (by omega), rfl⟩
        case round =>
          obtain ⟨j2, hj2, rfl, hb, rfl⟩ := hrel
          have HB := Lib.hid hb
          clear hb
          by_cases hlt2 : j2 < n
          · have hjl : j2 < g.length := by have := HM.out; omega
            obtain ⟨b0, off, cap', hv, hb0, hcell⟩ := HP.out.pos (by have := HM.out; omega)
            rw [← HM.out] at hv
            injection hv with e1 e2 e3
            subst e1 e3
            have c0 := IntsK.at hcell hjl
            clear hcell
            have HX := Lib.hid (get_of hjl)
            generalize g[j2] = x at c0 HX
            cases hv : vld x with
            | true =>
              have HV := Lib.hid (fun W => rtime_b true x W hv)
              have HB2 := Lib.hid (runs_step HX.out hv HB.out)
              clear hv
              go_wp2_with (go_at_call 46; refine (HV.out _).mono ?_; rintro e w' ⟨rfl, rfl⟩)
              go_roundw
              case rel => exact ⟨j2 + 1, by omega, by go_num, HB2.out, trivial⟩
              case measure => simp; omega
            | false =>
              have HV := Lib.hid (fun W => rtime_b false x W hv)
              have HE : Hid (runsE f g = 14) := Lib.hid (runsE_time HFG.out.2 HFG.out.1 (by rw [all_bad HX.out hv, Bool.and_false]))
              clear hv
              go_wp2_with (go_at_call 46; refine (HV.out _).mono ?_; rintro e w' ⟨rfl, rfl⟩)
              go_ret
              exact ⟨by rw [HE.out]; rfl, Kept.refl _ _⟩
          · have HGA := Lib.hid (all_good HM.out (fun q x hq hx => HB.out q x (by omega) hx))
            have HEO := Lib.hid (runsE_ord HFG.out.2 HFG.out.1 (by rw [HFA.out, HGA.out]; rfl))
            clear HB
            go_wp2
            go_loopw [7] (fun jv wr => ∃ (j : Nat), j ≤ n ∧ jv = .int .i64 j ∧ (∀ q x y, q < j → f[q]? = some x → g[q]? = some y → x ≤ y) ∧ Kept (fun _ => False) w wr) (fun i _ => match i with | .int _ x => (n - x).toNat | _ => 0)
            case atStart => exact ⟨0, Nat.zero_le _, rfl, fun q x y h => absurd h (by omega), Kept.refl _ _⟩
            case round =>
              obtain ⟨j3, hj3, rfl, hb, K⟩ := hrel
              have HB := Lib.hid hb
              have HK := Lib.hid K
              clear hb K
              by_cases hlt3 : j3 < n
              · have hjf : j3 < f.length := by have := HN.out; omega
                have hjg : j3 < g.length := by have := HM.out; omega
                obtain ⟨b0, off, cap', hv, hb0, hcell⟩ := (HQ.out.same HK.out).pos (by have := HN.out; omega)
                rw [← HN.out] at hv
                injection hv with e1 e2 e3
                subst e1 e3
                have c0 := IntsK.at hcell hjf
                clear hcell
                obtain ⟨b1, of1, ca1, hv, hb1, hcell⟩ := (HP.out.same HK.out).pos (by have := HM.out; omega)
                rw [← HM.out] at hv
                injection hv with e1 e2 e3
                subst e1 e3
                have c1 := IntsK.at hcell hjg
                clear hcell
                have HX := Lib.hid (get_of hjf)
                have HY := Lib.hid (get_of hjg)
                generalize f[j3] = x at c0 HX
                generalize g[j3] = y at c1 HY
                by_cases hE : y < x
                · have HE : Hid (runsE f g = 8) := Lib.hid (by rw [HEO.out, if_pos (List.any_eq_true.2 ⟨(x, y), List.mem_of_getElem? (zip_at HX.out HY.out), by simp [backB, hE]⟩)])
                  go_wp2
                  go_quiet (fail)
                  go_wp2
                  go_ret
                  exact ⟨by rw [HE.out]; rfl, HK.out.drewN _⟩
                · have HB2 : Hid (∀ q x y, q < j3 + 1 → f[q]? = some x → g[q]? = some y → x ≤ y) := Lib.hid fun q x' y' hq hx' hy' => by
                    by_cases e : q = j3
                    · subst e; rw [HX.out] at hx'; rw [HY.out] at hy'; injection hx' with hx'; injection hy' with hy'; omega
                    · exact HB.out q x' y' (by omega) hx' hy'
                  go_wp2
                  go_quiet (fail)
                  go_wp2
                  go_roundw
                  case rel => exact ⟨j3 + 1, by omega, by go_num, HB2.out, HK.out.drewN _⟩
                  case measure => simp; omega
              · have HE : Hid (runsE f g = 0) := Lib.hid (by
                  rw [HEO.out, if_neg]
                  intro q
                  obtain ⟨⟨x, y⟩, hxy, hbk⟩ := List.any_eq_true.1 q
                  obtain ⟨i, hi⟩ := List.getElem?_of_mem hxy
                  rw [List.getElem?_zip_eq_some] at hi
                  have := HB.out i x y (by have := (List.getElem?_eq_some_iff.1 hi.1).1; have := HN.out; omega) hi.1 hi.2
                  simp [backB] at hbk
                  omega)
                go_wp2
                go_ret
                exact ⟨by rw [HE.out]; rfl, HK.out⟩
  · have HE : Hid (runsE f g = 2) := Lib.hid (by unfold runsE; rw [if_neg (by have := HN.out; omega), if_pos (by have := HN.out; have := HM.out; omega)])
    have h2' : ¬ (n : Int) = (m : Int) := by omega
    have hb : ((n : Int) == (m : Int)) = false := by simp; omega
    go_enter Try.func43, Try.ntmps43
    go_wp2
    go_ret
    exact ⟨by rw [HE.out]; rfl, Kept.refl _ _⟩
end Go.Proofs.Ytelgknecainlfaa

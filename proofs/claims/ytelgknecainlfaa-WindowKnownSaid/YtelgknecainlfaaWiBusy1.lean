/- The program's Busy: what its loop keeps. -/
import Derived.Test.YtelgknecainlfaaWiBusyPlain
namespace Go.Proofs.Ytelgknecainlfaa
open Go.RowKit
open Wi (vld Srt chk)

structure BsT (f g : List Int) (d : List T2) (a : Int) (m j sum : Nat) (since : Int) : Prop where
  zero : ct (d.take j) = 0 → sum = cntR (fun t => bz f g t && bfr d j t) a m
  pos : 0 < ct (d.take j) → ∃ s, s < j ∧ d[s]? = some (since, true) ∧ ct (d.take s) = 0 ∧ (∀ k, s < k → k ≤ j → 0 < ct (d.take k)) ∧ sum = cntR (fun t => bz f g t && bfr d s t) a m
section
variable {f g : List Int} {d : List T2} {a : Int} {m j sum : Nat} {since x : Int}
theorem BsT.start (f g : List Int) (d : List T2) (a : Int) (m : Nat) : BsT f g d a m 0 0 0 :=
  ⟨fun _ => (cntR_none fun i _ => by simp [bfr]).symm, fun h => absurd h (by simp [ct])⟩
theorem BsT.begin0 (h : BsT f g d a m j sum since) (hx : d[j]? = some (x, true)) (h0 : ct (d.take j) = 0) : BsT f g d a m (j + 1) sum x := by
  have hc := ct_snoc d hx
  simp only [if_true] at hc
  refine ⟨fun q => by omega, fun _ => ⟨j, by omega, hx, h0, fun k h1 h2 => ?_, h.zero h0⟩⟩
  obtain rfl : k = j + 1 := by omega
  omega
theorem BsT.stay (h : BsT f g d a m j sum since) (hp : 0 < ct (d.take j)) (hq : 0 < ct (d.take (j + 1))) : BsT f g d a m (j + 1) sum since := by
  refine ⟨fun q => by omega, fun _ => ?_⟩
  obtain ⟨s, h1, h2, h3, h4, h5⟩ := h.pos hp
  refine ⟨s, by omega, h2, h3, fun k k1 k2 => ?_, h5⟩
  by_cases e : k = j + 1
  · subst e; exact hq
  · exact h4 k k1 (by omega)
theorem BsT.end0 (h : BsT f g d a m j sum since) (T : Turned f g d) (hx : d[j]? = some (x, false)) (h1 : ct (d.take j) = 1) : BsT f g d a m (j + 1) (sum + cntR (inR since x) a m) since := by
  have hc := ct_snoc d hx
  simp only [Bool.false_eq_true, if_false] at hc
  obtain ⟨s, s1, s2, s3, s4, s5⟩ := h.pos (by omega)
  refine ⟨fun _ => ?_, fun q => by omega⟩
  rw [s5]
  refine (cntR_split fun t => ?_).symm
  obtain ⟨K, k1, k2, k3⟩ := T.bz t
  have hsj : since ≤ x := by
    have := pair_at (pair_time T.srt) s1 s2 hx
    exact this
  have ks := k2 s _ s2
  have kj := k2 j _ hx
  simp only at ks kj
  by_cases q1 : since ≤ t
  · have e1 : bfr d s t = false := bfr_not.2 fun i y hi hy => by
      have := pair_at (pair_time T.srt) hi hy s2
      simp only at this
      omega
    by_cases q2 : t < x
    · have e2 : bfr d (j + 1) t = true := bfr_iff.2 ⟨j, _, by omega, hx, q2⟩
      have e3 : bz f g t = true := k3.2 (s4 K (ks.1 q1) (by
        rcases Nat.lt_or_ge j K with q | q
        · have := kj.2 q; omega
        · exact q))
      simp [e1, e2, e3, inR, q1, q2]
    · have e2 : bfr d (j + 1) t = false := bfr_not.2 fun i y hi hy => by
        by_cases e : i = j
        · subst e; rw [hx] at hy; injection hy with hy; subst hy; simp only; omega
        · have := pair_at (pair_time T.srt) (show i < j by omega) hy hx
          simp only at this
          omega
      simp [e1, e2, inR, q2]
  · have e2 : bfr d (j + 1) t = true := bfr_iff.2 ⟨s, _, by omega, s2, by simp only; omega⟩
    have e3 : bz f g t = true → bfr d s t = true := fun hb => by
      cases hbf : bfr d s t with
      | true => rfl
      | false =>
        exfalso
        have hK : K = s := by
          have a1 : ¬ s < K := fun q => q1 (ks.2 q)
          rcases Nat.lt_or_ge K s with q | q
          · have hKl : K < d.length := by have := (List.getElem?_eq_some_iff.1 s2).1; omega
            have := bfr_not.1 hbf K _ q (List.getElem?_eq_getElem hKl)
            have := (k2 K _ (List.getElem?_eq_getElem hKl)).1 this
            omega
          · omega
        have := k3.1 hb
        rw [hK] at this
        omega
    cases hb : bz f g t with
    | true => simp [e2, e3 hb, inR, q1]
    | false => simp [inR, q1]
theorem BsT.done (h : BsT f g d a m j sum since) (T : Turned f g d) (hj : d.length ≤ j) : sum = cntR (bz f g) a m := by
  have e0 : ct (d.take j) = 0 := by rw [List.take_of_length_le hj]; exact T.ct0
  rw [h.zero e0]
  refine cntR_congr fun i _ => ?_
  generalize a + (i : Int) = t
  obtain ⟨K, k1, k2, k3⟩ := T.bz t
  cases hb : bz f g t with
  | false => rfl
  | true =>
    have hp := k3.1 hb
    have hK : K < d.length := by
      rcases Nat.lt_or_ge K d.length with q | q
      · exact q
      · rw [List.take_of_length_le q, T.ct0] at hp; omega
    have hx := List.getElem?_eq_getElem hK
    have : ¬ d[K].1 ≤ t := fun q => by have := (k2 K _ hx).1 q; omega
    rw [Bool.true_and]
    exact bfr_iff.2 ⟨K, _, by omega, hx, by omega⟩
end
def busyE (f g : List Int) (a b : Int) : Int := if runsE f g ≠ 0 then runsE f g else if (vld a && vld b) = true then 0 else 14
def busyV (f g : List Int) (a b : Int) : Nat := if busyE f g a b = 0 then busyF f g a b else 0
def BusyPost (f g : List Int) (a b : Int) (w : World) (e : Ending) (w' : World) : Prop := e = .returned (.tuple #[.int .i64 (busyV f g a b), .int .i64 (busyE f g a b)]) ∧ Kept (fun _ => False) w w'
theorem busyE_bad {f g : List Int} {a b : Int} (h : runsE f g ≠ 0) : busyE f g a b = runsE f g ∧ busyV f g a b = 0 := by
  have e : busyE f g a b = runsE f g := by unfold busyE; rw [if_pos h]
  exact ⟨e, by unfold busyV; rw [if_neg (by rw [e]; exact h)]⟩
theorem busyE_time {f g : List Int} {a b : Int} (h : runsE f g = 0) (hv : (vld a && vld b) = false) : busyE f g a b = 14 ∧ busyV f g a b = 0 := by
  have e : busyE f g a b = 14 := by unfold busyE; rw [if_neg (by simp [h]), if_neg (by simp [hv])]
  exact ⟨e, by unfold busyV; rw [if_neg (by rw [e]; decide)]⟩
theorem busyE_ok {f g : List Int} {a b : Int} (h : runsE f g = 0) (hv : (vld a && vld b) = true) : busyE f g a b = 0 ∧ busyV f g a b = busyF f g a b := by
  have e : busyE f g a b = 0 := by unfold busyE; rw [if_neg (by simp [h]), if_pos hv]
  exact ⟨e, by unfold busyV; rw [if_pos e]⟩
end Go.Proofs.Ytelgknecainlfaa

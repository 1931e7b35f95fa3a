/- The most runs at a time, and how many times have one. -/
import Derived.Test.YtelgknecainlfaaWiBusy1
namespace Go.Proofs.Ytelgknecainlfaa
open Go.RowKit
open Wi (vld Srt chk)

def sumR (h : Int → Nat) (a : Int) : Nat → Nat
  | 0 => 0
  | m + 1 => sumR h a m + h (a + (m : Int))
theorem sumR_add (h k : Int → Nat) (a : Int) (m : Nat) : sumR (fun t => h t + k t) a m = sumR h a m + sumR k a m := by
  induction m with
  | zero => rfl
  | succ m ih => simp only [sumR, ih]; omega
theorem sumR_cnt (p : Int → Bool) (a : Int) (m : Nat) : sumR (fun t => if p t = true then 1 else 0) a m = cntR p a m := by
  induction m with
  | zero => rfl
  | succ m ih => rw [cntR_succ, ← ih]; rfl
theorem sumR_zero (a : Int) (m : Nat) : sumR (fun _ => 0) a m = 0 := by
  induction m with
  | zero => rfl
  | succ m ih => simp only [sumR, ih]
theorem cnt_le_sum {p : Int → Bool} {h : Int → Nat} {a : Int} {m : Nat} (hp : ∀ t, p t = decide (0 < h t)) : cntR p a m ≤ sumR h a m := by
  induction m with
  | zero => exact Nat.le_refl _
  | succ m ih =>
    rw [cntR_succ, hp]
    simp only [sumR]
    by_cases q : 0 < h (a + (m : Int))
    · simp only [q, decide_true, if_true]; omega
    · simp only [q, decide_false, Bool.false_eq_true, if_false]; omega
theorem cnt_eq_sum {p : Int → Bool} {h : Int → Nat} {a : Int} {m : Nat} (hp : ∀ t, p t = decide (0 < h t)) (h1 : ∀ t, h t ≤ 1) : cntR p a m = sumR h a m := by
  induction m with
  | zero => rfl
  | succ m ih =>
    rw [cntR_succ, hp]
    simp only [sumR]
    have := h1 (a + (m : Int))
    by_cases q : 0 < h (a + (m : Int))
    · simp only [q, decide_true, if_true]; omega
    · simp only [q, decide_false, Bool.false_eq_true, if_false]; omega
def sumD (z : List (Int × Int)) : Int := (z.map fun p => p.2 - p.1).sum
theorem sumD_at {f g : List Int} {j : Nat} {x y : Int} (hx : f[j]? = some x) (hy : g[j]? = some y) : sumD ((f.zip g).take (j + 1)) = sumD ((f.zip g).take j) + (y - x) := by
  unfold sumD
  rw [List.take_add_one, zip_at hx hy, List.map_append, List.sum_append]
  simp
theorem sum_at {z : List (Int × Int)} {m : Nat} (hz : ∀ p ∈ z, 0 ≤ p.1 ∧ p.1 ≤ p.2 ∧ p.2 < m) : (sumR (fun t => z.countP (runB t)) 0 m : Int) = sumD z := by
  induction z with
  | nil =>
    have : sumR (fun t => ([] : List (Int × Int)).countP (runB t)) 0 m = 0 := sumR_zero 0 m
    rw [this]; rfl
  | cons p z ih =>
    obtain ⟨x, y⟩ := p
    have h0 := hz _ List.mem_cons_self
    simp only at h0
    have h1 := ih fun q hq => hz q (List.mem_cons_of_mem _ hq)
    have e : (fun t => ((x, y) :: z).countP (runB t)) = fun t => z.countP (runB t) + (if inR x y t = true then 1 else 0) := by
      funext t
      rw [List.countP_cons]
      rfl
    rw [e, sumR_add, sumR_cnt]
    have h2 := cntR_span x y 0 m
    have h3 : sumD ((x, y) :: z) = (y - x) + sumD z := by unfold sumD; simp
    rw [h3, Int.natCast_add, h1, h2]
    omega
theorem exists_last (f : List Int) (t : Int) (h : ∃ x ∈ f, x ≤ t) : ∃ x ∈ f, x ≤ t ∧ ∀ y ∈ f, y ≤ t → y ≤ x := by
  induction f with
  | nil => obtain ⟨x, hx, -⟩ := h; cases hx
  | cons a f ih =>
    by_cases q : ∃ x ∈ f, x ≤ t
    · obtain ⟨x, hx, h1, h2⟩ := ih q
      by_cases c : a ≤ t ∧ x < a
      · refine ⟨a, List.mem_cons_self, c.1, fun y hy hyt => ?_⟩
        rcases List.mem_cons.1 hy with rfl | hy
        · exact Int.le_refl _
        · have := h2 y hy hyt; omega
      · refine ⟨x, List.mem_cons_of_mem _ hx, h1, fun y hy hyt => ?_⟩
        rcases List.mem_cons.1 hy with rfl | hy
        · omega
        · exact h2 y hy hyt
    · obtain ⟨x, hx, hxt⟩ := h
      rcases List.mem_cons.1 hx with rfl | hx
      · refine ⟨x, List.mem_cons_self, hxt, fun y hy hyt => ?_⟩
        rcases List.mem_cons.1 hy with rfl | hy
        · exact Int.le_refl _
        · exact absurd ⟨y, hy, hyt⟩ q
      · exact absurd ⟨x, hx, hxt⟩ q
theorem Pk.all {f g : List Int} {n : Nat} {w : Int} (h : Pk f g n w) (t : Int) : atF f g t ≤ n := by
  rcases Nat.eq_zero_or_pos (atF f g t) with q | q
  · omega
  · have hb : bz f g t = true := by unfold bz; simpa using q
    obtain ⟨i, x, y, hx, hy, h1, h2⟩ := bz_iff.1 hb
    obtain ⟨z, hz, z1, z2⟩ := exists_last f t ⟨x, List.mem_of_getElem? hx, h1⟩
    have := h.top z hz
    have : atF f g t ≤ atF f g z := by
      unfold atF
      refine List.countP_mono_left fun p hp hr => ?_
      have hf := (List.of_mem_zip hp).1
      simp [runB] at hr ⊢
      exact ⟨z2 _ hf hr.1, by omega⟩
    omega
theorem cntR_pos {p : Int → Bool} {a : Int} {m i : Nat} (hi : i < m) (h : p (a + (i : Int)) = true) : 0 < cntR p a m := by
  unfold cntR
  rw [List.countP_pos_iff]
  exact ⟨i, List.mem_range.2 hi, h⟩
theorem peak_busy {f g : List Int} {n : Nat} {w : Int} (hr : runsE f g = 0) (hv : ∀ p ∈ f.zip g, 0 ≤ p.1 ∧ p.1 ≤ p.2 ∧ p.2 ≤ 253402300799) (hf : ∀ x ∈ f, 0 ≤ x ∧ x ≤ 253402300799) (h : Pk f g n w) :
    (n = 0 ↔ busyF f g 0 253402300799 = 0) ∧ (busyF f g 0 253402300799 : Int) ≤ sumD (f.zip g) ∧ (n ≤ 1 → (busyF f g 0 253402300799 : Int) = sumD (f.zip g)) := by
  have hs := sum_at (z := f.zip g) (m := 253402300800) (fun p hp => by have := hv p hp; omega)
  have e : busyF f g 0 253402300799 = cntR (bz f g) 0 253402300800 := rfl
  rw [e]
  have hp : ∀ t, bz f g t = decide (0 < (f.zip g).countP (runB t)) := fun t => rfl
  refine ⟨⟨fun h0 => cntR_none fun i _ => ?_, fun h0 => ?_⟩, ?_, fun h1 => ?_⟩
  · have := h.all (0 + (i : Int))
    unfold bz
    rw [decide_eq_false (by omega)]
  · rcases Nat.eq_zero_or_pos n with q | q
    · exact q
    · exfalso
      obtain ⟨a, b⟩ := h.is q
      have hw := hf w a
      have := cntR_pos (p := bz f g) (a := 0) (m := 253402300800) (i := w.toNat) (by omega) (by
        rw [show (0 : Int) + (w.toNat : Int) = w by omega]
        unfold bz
        simp; omega)
      omega
  · rw [← hs]
    exact Int.ofNat_le.2 (cnt_le_sum hp)
  · rw [← hs]
    exact congrArg _ (cnt_eq_sum hp fun t => Nat.le_trans (h.all t) h1)
end Go.Proofs.Ytelgknecainlfaa

/- Spans that follow one another; the span with the most launches begins with one of them. -/
import Derived.Test.YtelgknecainlfaaWiCountsW
namespace Go.Proofs.Ytelgknecainlfaa
open Go.RowKit
open Wi (vld Srt chk longE)

theorem cntIn_add {a b c : Int} (h1 : a ≤ b) (h2 : b < c) (l : List Int) : cntIn a b l + cntIn (b + 1) c l = cntIn a c l := by
  induction l with
  | nil => rfl
  | cons x l ih =>
    unfold cntIn at *
    rw [List.countP_cons, List.countP_cons, List.countP_cons]
    have key : (if (decide (a ≤ x) && decide (x ≤ b)) = true then 1 else 0) + (if (decide (b + 1 ≤ x) && decide (x ≤ c)) = true then 1 else 0) = (if (decide (a ≤ x) && decide (x ≤ c)) = true then 1 else 0) := by
      by_cases q1 : a ≤ x <;> by_cases q2 : x ≤ b <;> by_cases q3 : b + 1 ≤ x <;> by_cases q4 : x ≤ c <;> simp [q1, q2, q3, q4] <;> omega
    omega
theorem srt_pair {l : List Int} (h : Srt l) : l.Pairwise (fun x y => x ≤ y) := by
  rw [List.pairwise_iff_getElem]
  intro i j hi hj hij
  exact h.mono (Nat.le_of_lt hij) (List.getElem?_eq_getElem hi) (List.getElem?_eq_getElem hj)
theorem srt_cut {l : List Int} (h : Srt l) (t : Int) : ∃ K, K ≤ l.length ∧ ∀ q y, l[q]? = some y → (y < t ↔ q < K) := by
  have hp : (l.map fun x => ((x, true) : T2)).Pairwise (fun x y => x.1 ≤ y.1) := by
    rw [List.pairwise_map]
    exact srt_pair h
  obtain ⟨K, h1, h2, -⟩ := sorted_cut hp (t - 1)
  refine ⟨K, by simpa using h1, fun q y hy => ?_⟩
  have := h2 q (y, true) (by rw [List.getElem?_map, hy]; rfl)
  rw [← this]
  simp only
  omega
theorem cntIn_cut {l : List Int} {a b : Int} {p r : Nat} (hp : p ≤ l.length) (hr : r ≤ l.length) (h1 : ∀ q y, l[q]? = some y → (y < a ↔ q < p)) (h2 : ∀ q y, l[q]? = some y → (y < b + 1 ↔ q < r)) : cntIn a b l = r - p :=
  cntIn_part a b l p r hp hr (fun q y hq hy => (h1 q y hy).2 hq) (fun q y hq hy => by have := (h1 q y hy).1; omega) (fun q y hq hy => (h2 q y hy).2 hq) (fun q y hq hy => by have := (h2 q y hy).1; omega)
def cspan (l : List Int) (L x : Int) : Nat := cntIn x (min (x + L) 253402300799) l
theorem best_max {l : List Int} {L : Int} {b : Nat} (hs : Srt l) (hv : ∀ x ∈ l, x ≤ 253402300799) (h1 : ∀ (i : Nat) x, l[i]? = some x → cspan l L x ≤ b) (h2 : b = 0 ∨ ∃ (i : Nat) (x : Int), l[i]? = some x ∧ cspan l L x = b) : MaxOf (okp l L) b := by
  refine ⟨fun i j h => ?_, ?_⟩
  · obtain ⟨x, y, hx, hy, hij, hxy⟩ := h
    have hc := h1 i x hx
    obtain ⟨p, p1, p2⟩ := srt_cut hs x
    obtain ⟨r, r1, r2⟩ := srt_cut hs (min (x + L) 253402300799 + 1)
    unfold cspan at hc
    rw [cntIn_cut p1 r1 p2 r2] at hc
    have e1 : ¬ i < p := fun q => by have := (p2 i x hx).2 q; omega
    have e2 : j < r := (r2 j y hy).1 (by have := hv y (List.mem_of_getElem? hy); omega)
    omega
  · rcases h2 with h | ⟨i, x, hx, h⟩
    · exact .inl h
    · obtain ⟨p, p1, p2⟩ := srt_cut hs x
      obtain ⟨r, r1, r2⟩ := srt_cut hs (min (x + L) 253402300799 + 1)
      unfold cspan at h
      rw [cntIn_cut p1 r1 p2 r2] at h
      rcases Nat.eq_zero_or_pos b with q | q
      · exact .inl q
      · right
        have hp : p < l.length := by omega
        have hr : r - 1 < l.length := by omega
        have gp := List.getElem?_eq_getElem hp
        have gr := List.getElem?_eq_getElem hr
        have t1 : ¬ l[p] < x := fun q => by have := (p2 p _ gp).1 q; omega
        have t2 := (r2 (r - 1) _ gr).2 (by omega)
        exact ⟨p, r - 1, ⟨l[p], l[r - 1], gp, gr, by omega, by omega⟩, by omega⟩
theorem cntIn_le (a b : Int) (l : List Int) : cntIn a b l ≤ l.length := List.countP_le_length
end Go.Proofs.Ytelgknecainlfaa

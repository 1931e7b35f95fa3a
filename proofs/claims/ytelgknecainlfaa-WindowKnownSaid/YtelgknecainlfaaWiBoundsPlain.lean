/- Launches that keep to a limit: each two by themselves; no span has more than is allowed. -/
import Derived.Test.YtelgknecainlfaaWiCountsW
namespace Go.Proofs.Ytelgknecainlfaa
open Go.RowKit
open Wi (vld Srt chk longE limE)

/-- Each two launches, up to i and k, keep to the limit. -/
def PB (T U : Int) (l : List Int) (i k : Nat) : Prop := ∀ a b, a < b → b < l.length → (a < i ∨ (a = i ∧ b < k)) → ¬ Ey T U l a b
theorem PB.start (T U : Int) (l : List Int) : PB T U l 0 1 := fun a b h1 h2 h3 => by omega
theorem PB.step {T U : Int} {l : List Int} {i k : Nat} (hik : i < k) (hk : k < l.length) : PB T U l i (k + 1) ↔ PB T U l i k ∧ ¬ Ey T U l i k := by
  constructor
  · intro h
    exact ⟨fun a b h1 h2 h3 => h a b h1 h2 (by omega), h i k hik hk (by omega)⟩
  · rintro ⟨h, h'⟩ a b h1 h2 h3
    by_cases e : a = i ∧ b = k
    · obtain ⟨rfl, rfl⟩ := e; exact h'
    · exact h a b h1 h2 (by omega)
theorem PB.next {T U : Int} {l : List Int} {i k : Nat} (hk : l.length ≤ k) : PB T U l i k ↔ PB T U l (i + 1) (i + 1 + 1) :=
  ⟨fun h a b h1 h2 h3 => h a b h1 h2 (by omega), fun h a b h1 h2 h3 => h a b h1 h2 (by omega)⟩
theorem PB.all {T U : Int} {l : List Int} {i k : Nat} (hi : l.length ≤ i) : PB T U l i k ↔ ∀ a b, a < b → ¬ Ey T U l a b :=
  ⟨fun h a b h1 h2 => h a b h1 h2.lt.2 (by have := h2.lt; omega) h2, fun h a b h1 _ _ => h a b h1⟩
theorem keepsR_all {T U : Int} {l : List Int} {i j : Int} {is : Bool} (h : KeepsR T U l i j is) : is = true ↔ ∀ a b, a < b → ¬ Ey T U l a b := by
  rcases h with ⟨rfl, -, -, h⟩ | ⟨rfl, a, b, -, -, hab, hE, -⟩
  · exact ⟨fun _ => h, fun _ => rfl⟩
  · exact ⟨fun h => (by cases h), fun h => absurd hE (h a b hab)⟩
theorem ey_div {T U : Int} {l : List Int} {a b : Nat} {x y : Int} (hT : 0 < T) (hx : l[a]? = some x) (hy : l[b]? = some y) : ¬ Ey T U l a b ↔ ((b : Int) - a) * T ≤ y - x + U := by
  rw [← Ey.of hx hy]
  unfold early
  simp only [Bool.and_eq_true, decide_eq_true_eq]
  omega
theorem le_quo {m d T : Int} (hT : 0 < T) : m + 1 ≤ d / T + 1 ↔ m * T ≤ d := by
  rw [Int.add_le_add_iff_right, Int.le_ediv_iff_mul_le hT]
theorem most_bound {T U L : Int} {l : List Int} {n : Nat} (hT : 0 < T) (hk : ∀ a b, a < b → ¬ Ey T U l a b) (hU : 0 ≤ U) (hL : 0 ≤ L) (h : MaxOf (okp l L) n) : (n : Int) ≤ (L + U) / T + 1 := by
  rcases h.2 with h | ⟨i, j, ⟨x, y, hx, hy, hij, hxy⟩, hn⟩
  · have := Int.ediv_nonneg (show 0 ≤ L + U by omega) (show 0 ≤ T by omega)
    omega
  · have e : (n : Int) = ((j : Int) - i) + 1 := by omega
    rw [e, le_quo hT]
    by_cases hlt : i < j
    · have := (ey_div hT hx hy).1 (hk i j hlt)
      omega
    · have : (j : Int) - i = 0 := by omega
      rw [this]; omega
end Go.Proofs.Ytelgknecainlfaa

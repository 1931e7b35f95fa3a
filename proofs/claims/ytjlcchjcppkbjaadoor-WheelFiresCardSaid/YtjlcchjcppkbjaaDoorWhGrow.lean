/- WhGrow: texts for the statements of this seat: contracts of functions, walks, plain laws. Conditions: none. -/
import Derived.Test.YtjlcchjcppkbjaaDoorWhDuo
import Derived.Test.YtjlcchjcppkbjaaDoorGeAll
set_option linter.all false
/- Rows of others that grow beside wheels. -/
namespace Go.Proofs.YtjlcchjcppkbjaaDoor
open Go.RowKit
variable {w w' w0 : World} {F G S : Nat → Prop} {B B1 B2 : Nat} {W W1 W2 : Wh}
theorem Wl.grow (h : Wl w0 w F B W) (K : Kept S w w') (hS : ∀ b, S b → F b) (hS0 : ∀ b, b < w0.heap.size → ¬ S b) (hG : ∀ b, G b → b < w'.heap.size ∧ (F b ∨ w.heap.size ≤ b)) : Wl w0 w' G B W := by
  obtain ⟨t, kd, h1, h2, h3⟩ := h
  refine ⟨t, kd, h1.kept K (fun b q s => q (h2 b (hS b s)).2), fun b q => ⟨(hG b q).1, ?_⟩, h3.trans K (fun b hb s => hS0 b hb s)⟩
  rcases (hG b q).2 with q | q
  · exact (h2 b q).2
  · by_cases e : kd b = 0
    · exact e
    · have := (h1.lo b e).2; omega
theorem Wl2.grow (h : Wl2 w0 w F B1 B2 W1 W2) (K : Kept S w w') (hS : ∀ b, S b → F b) (hS0 : ∀ b, b < w0.heap.size → ¬ S b) (hG : ∀ b, G b → b < w'.heap.size ∧ (F b ∨ w.heap.size ≤ b)) : Wl2 w0 w' G B1 B2 W1 W2 := by
  obtain ⟨t, k1, k2, h1, h2, h3, h4, h5⟩ := h
  refine ⟨t, k1, k2, h1.kept K (fun b q s => q (h3 b (hS b s)).2.1), h2.kept K (fun b q s => q (h3 b (hS b s)).2.2), fun b q => ⟨(hG b q).1, ?_⟩, h4, h5.trans K (fun b hb s => hS0 b hb s)⟩
  rcases (hG b q).2 with q | q
  · exact (h3 b q).2
  · constructor
    · by_cases e : k1 b = 0
      · exact e
      · have := (h1.lo b e).2; omega
    · by_cases e : k2 b = 0
      · exact e
      · have := (h2.lo b e).2; omega
end Go.Proofs.YtjlcchjcppkbjaaDoor

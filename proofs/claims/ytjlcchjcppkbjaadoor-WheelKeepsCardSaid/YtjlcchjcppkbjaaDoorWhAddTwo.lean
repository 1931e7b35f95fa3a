/- WhAddTwo: texts for the statements of this seat: contracts of functions, walks, plain laws. Conditions: none. -/
import Derived.Test.YtjlcchjcppkbjaaDoorWhRoom
set_option linter.all false
/- The same Add at two wheels that look alike. -/
namespace Go.Proofs.YtjlcchjcppkbjaaDoor
open Go.RowKit
theorem ins_fd (x y : Tm) (l : List Tm) (h1 : x.at_ = y.at_) (h2 : x.id = y.id) : (ins x l).map Tm.fd = (ins y l).map Tm.fd := by
  unfold ins
  rw [List.map_append, List.map_append, List.map_cons, List.map_cons, h1]
  have : x.fd = y.fd := by unfold Tm.fd; rw [h1, h2]
  rw [this]
theorem add_two {W V : Wh} (okW : WOk W) (okV : WOk V) (hsW : W.seq ≤ 1000000000) (hsV : V.seq ≤ 1000000000) (hn : V.now = W.now) (hl : V.l = W.l) (hz : V.a.sl.length = W.a.sl.length) {h : Int} (hu : Used V.a h) (hc : ∀ x ∈ V.l, x.h ≠ h) (at_ id : Int) :
    ∃ V' k f W' k2, V.add at_ id = (V', k, f) ∧ W.add at_ id = (W', k2, f) ∧ V'.l.map Tm.fd = W'.l.map Tm.fd ∧ (f = 0 → k ≠ h ∧ V'.cancel h = (V', 5)) := by
  have hll : V.l.length = W.l.length := by rw [hl]
  rcases add_four okV hsV at_ id with ⟨a1, a2⟩ | ⟨a0, a1, a3, a2⟩ | ⟨a1, a3, a4, a2⟩ | ⟨a1, a3, a4, V', k, a2, b1, b2, b3, b4, b5, b6, b7⟩
  · rcases add_four okW hsW at_ id with ⟨c1, c2⟩ | ⟨c0, c1, c3, c2⟩ | ⟨c1, c3, c4, c2⟩ | ⟨c1, c3, c4, -⟩
    · exact ⟨_, _, _, _, _, a2, c2, by rw [hl], fun e => by cases e⟩
    all_goals have := okW.now; omega
  · rcases add_four okW hsW at_ id with ⟨c1, c2⟩ | ⟨c0, c1, c3, c2⟩ | ⟨c1, c3, c4, c2⟩ | ⟨c1, c3, c4, -⟩
    · omega
    · exact ⟨_, _, _, _, _, a2, c2, by rw [hl], fun e => by cases e⟩
    all_goals omega
  · rcases add_four okW hsW at_ id with ⟨c1, c2⟩ | ⟨c0, c1, c3, c2⟩ | ⟨c1, c3, c4, c2⟩ | ⟨c1, c3, c4, -⟩
    · have := okW.now; omega
    · omega
    · exact ⟨_, _, _, _, _, a2, c2, by rw [hl], fun e => by cases e⟩
    · omega
  · rcases add_four okW hsW at_ id with ⟨c1, c2⟩ | ⟨c0, c1, c3, c2⟩ | ⟨c1, c3, c4, c2⟩ | ⟨c1, c3, c4, W', k2, c2, d1, d2, d3, d4, -⟩
    · have := okW.now; omega
    · omega
    · omega
    · have hk : k ≠ h := fun e => (put_used okV.inv b7).1 (by rw [e]; exact hu)
      refine ⟨_, _, _, _, _, a2, c2, by rw [b4, d4, hl]; exact ins_fd _ _ _ rfl rfl, fun _ => ⟨hk, cancel_none fun x hx => ?_⟩⟩
      rw [b4, mem_ins] at hx
      rcases hx with rfl | hx
      · exact hk
      · exact hc x hx
end Go.Proofs.YtjlcchjcppkbjaaDoor

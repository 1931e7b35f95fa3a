/- WhLaw0: texts for the statements of this seat: contracts of functions, walks, plain laws. Conditions: none. -/
import Derived.Test.YtjlcchjcppkbjaaDoorWhListW
set_option linter.all false
/- Plain laws of the abstract wheel: the next time, and time in steps. -/
namespace Go.Proofs.YtjlcchjcppkbjaaDoor
open Go.RowKit
theorem due_none {t : Int} {x : Tm} {r : List Tm} (h : t < x.at_) : due t (x :: r) = [] ∧ rest t (x :: r) = x :: r := by
  unfold due rest
  rw [List.takeWhile_cons, List.dropWhile_cons, if_neg (by simpa using h), if_neg (by simpa using h)]
  exact ⟨rfl, rfl⟩
theorem due_none_all {t : Int} {l : List Tm} (h : ∀ x ∈ l, t < x.at_) : due t l = [] ∧ rest t l = l := by
  cases l with
  | nil => exact ⟨rfl, rfl⟩
  | cons x r => exact due_none (h x (by simp))
theorem due_head {t : Int} {x : Tm} {r : List Tm} (h : x.at_ ≤ t) : due t (x :: r) = x :: due t r := by
  unfold due
  rw [List.takeWhile_cons, if_pos (by simpa using h)]
theorem due_len (t : Int) (l : List Tm) : (due t l).length + (rest t l).length = l.length := by
  rw [← List.length_append, due_rest]
theorem map_due (t : Int) (l : List Tm) : (l.map Tm.fd).take (due t l).length = (due t l).map Tm.fd ∧ (l.map Tm.fd).drop (due t l).length = (rest t l).map Tm.fd := by
  have h : l.map Tm.fd = (due t l).map Tm.fd ++ (rest t l).map Tm.fd := by rw [← List.map_append, due_rest]
  have e : (due t l).length = ((due t l).map Tm.fd).length := by rw [List.length_map]
  rw [h, e, List.take_left, List.drop_left]
  exact ⟨rfl, rfl⟩
/-- What happens around the next time. -/
theorem next_pop {W : Wh} (ok : WOk W) {x : Tm} {r : List Tm} (hl : W.l = x :: r) : W.now < x.at_ ∧ x.at_ ≤ NEVER ∧ W.next = (x.at_, true) ∧ ∃ Wa Wb, W.advance (x.at_ - 1) = (Wa, [], 0) ∧ Wa.advance x.at_ = (Wb, due x.at_ W.l, 0) ∧ Wb.l = rest x.at_ W.l ∧ Wb.now = x.at_ ∧ 0 < (due x.at_ W.l).length ∧ (∀ t ∈ due x.at_ W.l, t.at_ = x.at_) ∧ ∀ t ∈ rest x.at_ W.l, x.at_ < t.at_ := by
  have hnow := ok.now
  have hx := ok.at_ x (by rw [hl]; simp)
  have hn : W.next = (x.at_, true) := by unfold Wh.next; rw [hl]
  have h1 := @advance_ok W (x.at_ - 1) (by omega) hnow.1 (by omega)
  have h2 := due_none (t := x.at_ - 1) (x := x) (r := r) (by omega)
  rw [← hl] at h2
  rw [h2.1, h2.2] at h1
  refine ⟨hx.1, hx.2, hn, _, _, h1, @advance_ok { W with now := x.at_ - 1, a := freeAll W.a [], l := W.l } x.at_ (by show x.at_ - 1 ≤ x.at_; omega) (by show 0 ≤ x.at_ - 1; omega) hx.2, rfl, rfl, ?_, ?_, fun t ht => (mem_rest ok.sorted ht).2⟩
  · rw [hl, due_head (Int.le_refl _)]; simp
  · intro t ht
    have h3 := mem_due ht
    have h4 := ok.sorted
    rw [hl, List.pairwise_cons] at h4
    have h5 := h3.1
    rw [hl] at h5
    rcases List.mem_cons.1 h5 with rfl | q
    · rfl
    · have := h4.1 t q
      unfold Tm.lt at this
      have := h3.2
      omega
theorem wnext_nil {W : Wh} (hl : W.l = []) : W.next = (0, false) := by unfold Wh.next; rw [hl]
/-- Time in one more step. -/
theorem adv_step {W : Wh} (ok : WOk W) {s : Int} (h0 : W.now ≤ s) (h1 : s ≤ NEVER) : ∃ W', W.advance s = (W', due s W.l, 0) ∧ W'.l = rest s W.l ∧ W'.now = s ∧ W'.seq = W.seq :=
  ⟨_, advance_ok h0 ok.now.1 h1, rfl, rfl, rfl⟩
theorem due_now {W : Wh} (ok : WOk W) : due W.now W.l = [] ∧ rest W.now W.l = W.l := due_none_all fun x hx => (ok.at_ x hx).1
theorem due_between {W : Wh} {last s : Int} {l : List Tm} (hs : l.Pairwise Tm.lt) : ∀ t ∈ due s (rest last l), last < t.at_ ∧ t.at_ ≤ s := fun t ht => by
  have h := mem_due ht
  exact ⟨(mem_rest hs h.1).2, h.2⟩
end Go.Proofs.YtjlcchjcppkbjaaDoor

/- WhDue0: texts for the statements of this seat: contracts of functions, walks, plain laws. Conditions: none. -/
import Derived.Test.YtjlcchjcppkbjaaDoorWhLaw0
set_option linter.all false
/- Plain laws of an account of timers in the order in which they were added. -/
namespace Go.Proofs.YtjlcchjcppkbjaaDoor
open Go.RowKit
theorem due_app {lim : Int} {D E : List Tm} (hD : ∀ x ∈ D, x.at_ ≤ lim) (hE : ∀ x ∈ E, lim < x.at_) : due lim (D ++ E) = D ∧ rest lim (D ++ E) = E := by
  induction D with
  | nil => exact due_none_all hE
  | cons x D ih =>
    have hx : decide (x.at_ ≤ lim) = true := by simpa using hD x (by simp)
    obtain ⟨i1, i2⟩ := ih fun y hy => hD y (by simp [hy])
    unfold due rest at *
    rw [List.cons_append, List.takeWhile_cons, List.dropWhile_cons, if_pos hx, if_pos hx, i1, i2]
    exact ⟨rfl, rfl⟩
/-- Which numbers come first. -/
def Tm.sq (x y : Tm) : Prop := x.seq < y.seq
theorem seq_eq {l m : List Tm} (hl : l.Pairwise Tm.sq) (hm : m.Pairwise Tm.sq) (hp : l.Perm m) : l = m := by
  induction l generalizing m with
  | nil => exact (List.Perm.nil_eq hp)
  | cons x l ih =>
    cases m with
    | nil => exact absurd hp.symm (by simp)
    | cons y m =>
      rw [List.pairwise_cons] at hl hm
      have hxy : x = y := by
        have h1 : x ∈ y :: m := hp.mem_iff.1 (by simp)
        have h2 : y ∈ x :: l := hp.mem_iff.2 (by simp)
        rcases List.mem_cons.1 h1 with q | q
        · exact q
        · rcases List.mem_cons.1 h2 with r | r
          · exact r.symm
          · have a1 := hm.1 x q
            have a2 := hl.1 y r
            unfold Tm.sq at a1 a2
            omega
      subst hxy
      rw [ih hl.2 hm.2 (List.Perm.cons_inv hp)]
/-- The first of the earliest is the head of the list in order. -/
theorem best_head {E L : List Tm} {lim : Int} (hs : E.Pairwise Tm.lt) (hp : E.Perm L) (hq : L.Pairwise Tm.sq) {b : Nat} {z : Tm} (hz : L[b]? = some z) (hzt : z.at_ ≤ lim) (hb : ∀ (k : Nat) (t : Tm), L[k]? = some t → t.at_ ≤ lim → z.at_ ≤ t.at_ ∧ (t.at_ = z.at_ → b ≤ k)) :
    ∃ E', E = z :: E' ∧ E'.Perm (L.take b ++ L.drop (b + 1)) := by
  have hzL : z ∈ L := List.mem_of_getElem? hz
  have hsplit : L = L.take b ++ z :: L.drop (b + 1) := by
    have hlt := (List.getElem?_eq_some_iff.1 hz).1
    have := (List.getElem?_eq_some_iff.1 hz).2
    rw [← this, ← List.drop_eq_getElem_cons hlt, List.take_append_drop]
  cases E with
  | nil => exact absurd (hp.symm.mem_iff.1 hzL) (by simp)
  | cons y E =>
    have hyz : y = z := by
      rw [List.pairwise_cons] at hs
      have h1 : z ∈ y :: E := hp.mem_iff.2 hzL
      rcases List.mem_cons.1 h1 with q | q
      · exact q.symm
      · have hlt := hs.1 z q
        have hy : y ∈ L := hp.mem_iff.1 (by simp)
        obtain ⟨k, hk⟩ := List.getElem?_of_mem hy
        have hyt : y.at_ ≤ lim := by unfold Tm.lt at hlt; omega
        obtain ⟨a1, a2⟩ := hb k y hk hyt
        unfold Tm.lt at hlt
        have he : y.at_ = z.at_ := by omega
        have hbk := a2 he
        by_cases hne : b = k
        · subst hne
          rw [hz] at hk
          injection hk with hk
          exact hk.symm
        · obtain ⟨p1, p2⟩ := List.getElem?_eq_some_iff.1 hz
          obtain ⟨q1, q2⟩ := List.getElem?_eq_some_iff.1 hk
          have h3 := List.pairwise_iff_getElem.1 hq b k p1 q1 (by omega)
          rw [p2, q2] at h3
          unfold Tm.sq at h3
          omega
    subst hyz
    refine ⟨E, rfl, ?_⟩
    have h2 : (y :: E).Perm (y :: (L.take b ++ L.drop (b + 1))) := (hp.trans (by rw [← hsplit])).trans (List.perm_middle)
    exact List.Perm.cons_inv h2
theorem cut_sub (L : List Tm) (b : Nat) : (L.take b ++ L.drop (b + 1)).Sublist L := by
  have h := List.Sublist.append (List.Sublist.refl (L.take b)) (List.tail_sublist (L.drop b))
  rw [List.tail_drop, List.take_append_drop] at h
  exact h
/-- What stays of an account. -/
theorem rest_acc {S L L' : List Tm} {lim : Int} (hs : S.Pairwise Tm.lt) (hp : S.Perm L) (hq : L.Pairwise Tm.sq) (hsub : L'.Sublist L) (hp' : (rest lim S).Perm L') : L' = L.filter fun x => decide (lim < x.at_) := by
  refine seq_eq (hq.sublist hsub) (hq.sublist List.filter_sublist) ?_
  rw [rest_filter hs] at hp'
  exact hp'.symm.trans (hp.filter _)
end Go.Proofs.YtjlcchjcppkbjaaDoor

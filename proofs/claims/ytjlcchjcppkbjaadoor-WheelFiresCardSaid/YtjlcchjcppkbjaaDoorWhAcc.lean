/- WhAcc: texts for the statements of this seat: contracts of functions, walks, plain laws. Conditions: none. -/
import Derived.Test.YtjlcchjcppkbjaaDoorWhDue
import Derived.Test.YtjlcchjcppkbjaaDoorWhRoom
import Derived.Test.YtjlcchjcppkbjaaDoorWhGrow
import Derived.Test.YtjlcchjcppkbjaaDoorGeAll
set_option linter.all false
/- An account of what a wheel has. -/
namespace Go.Proofs.YtjlcchjcppkbjaaDoor
open Go.RowKit
/-- The account inn, in the order in which they were added, is what the wheel W has. -/
structure Acc (W : Wh) (inn : List Tm) : Prop where
  perm : W.l.Perm inn
  sq : inn.Pairwise Tm.sq
theorem Acc.len {W : Wh} {inn : List Tm} (h : Acc W inn) : W.l.length = inn.length := h.perm.length_eq
theorem Acc.nil {W : Wh} (h : W.l = []) : Acc W [] := ⟨by rw [h], List.Pairwise.nil⟩
theorem Acc.add {W W' : Wh} {inn : List Tm} (h : Acc W inn) (ok : WOk W) {x : Tm} (hx : x.seq = W.seq + 1) (hl : W'.l = ins x W.l) : Acc W' (inn ++ [x]) where
  perm := by
    rw [hl]
    exact (ins_perm x W.l).trans ((List.perm_append_singleton x W.l).symm.trans (h.perm.append_right [x]))
  sq := by
    rw [List.pairwise_append]
    refine ⟨h.sq, List.pairwise_singleton _ _, fun a ha b hb => ?_⟩
    rw [List.mem_singleton.1 hb]
    have := (ok.seq a (h.perm.mem_iff.2 ha)).2
    unfold Tm.sq
    omega
theorem Acc.cancel {W W' : Wh} {inn : List Tm} (h : Acc W inn) {hd : Int} (hl : W'.l = W.l.filter fun x => decide (x.h ≠ hd)) : Acc W' (inn.filter fun x => decide (x.h ≠ hd)) :=
  ⟨by rw [hl]; exact h.perm.filter _, h.sq.sublist List.filter_sublist⟩
theorem Acc.adv {W W' : Wh} {inn : List Tm} (h : Acc W inn) (ok : WOk W) {lim : Int} (hl : W'.l = rest lim W.l) : Acc W' (inn.filter fun x => decide (lim < x.at_)) :=
  ⟨by rw [hl, rest_filter ok.sorted]; exact h.perm.filter _, h.sq.sublist List.filter_sublist⟩
/-- The earliest time of an account. -/
theorem acc_min {W : Wh} {inn : List Tm} (h : Acc W inn) (ok : WOk W) {x : Tm} {r : List Tm} (hl : W.l = x :: r) : (∃ t ∈ inn, t.at_ = x.at_) ∧ ∀ t ∈ inn, x.at_ ≤ t.at_ := by
  refine ⟨⟨x, h.perm.mem_iff.1 (by rw [hl]; simp), rfl⟩, fun t ht => ?_⟩
  have h1 := h.perm.mem_iff.2 ht
  have h2 := ok.sorted
  rw [hl] at h1 h2
  rw [List.pairwise_cons] at h2
  rcases List.mem_cons.1 h1 with rfl | q
  · exact Int.le_refl _
  · have := h2.1 t q
    unfold Tm.lt at this
    omega
/-- What the list that a cut begins with is. -/
theorem he0 {w5 : World} {base : Nat} (hb5 : base ≤ w5.heap.size) (g : Nat) (V V' : World) (k2 : Kept (fun _ => False) (V.alloc (.cells #[] 34)) V') (k1 : Kept (fun _ => False) w5 V) (hg : V.heap.size = g) :
    (V'.ownsRow base 34 3 (.slice (some ⟨g, 0, none⟩) 0 0) 0 [] ∧ base ≤ V'.heap.size ∧ Kept (fun _ => False) w5 V') ∧ ∀ (v6 : Value) (w6 : World), Kept (fun b => (Value.slice (some ⟨g, 0, none⟩) 0 0).ownBlock = some b) V' w6 → (∀ b, v6.ownBlock = some b → (Value.slice (some ⟨g, 0, none⟩) 0 0).ownBlock = some b ∨ V'.heap.size ≤ b) → Kept (fun _ => False) w5 w6 ∧ ∀ b, v6.ownBlock = some b → w5.heap.size ≤ b := by
  have s1 := k1.size
  have s2 := k2.size
  have s3 : (V.alloc (.cells #[] 34)).heap.size = V.heap.size + 1 := by simp
  have k3 : Kept (fun _ => False) w5 V' := (k1.alloc _).trans k2 (fun _ _ h => h)
  refine ⟨⟨?_, by omega, k3⟩, fun v6 w6 k4 hb => ⟨k3.trans k4 (fun b hb q => by injection q with q; simp only at q; omega), fun b q => ?_⟩⟩
  · subst hg
    exact ownsRow_kept (ownsRow_base (own_empty V 34 3) (by omega)) k2 (fun _ _ _ h => h)
  · rcases hb b q with q | q
    · injection q with q; simp only at q; omega
    · omega
/-- The one with a handle is taken out. -/
theorem filter_cut {L : List Tm} (hn : (L.map Tm.h).Nodup) {b : Nat} {z : Tm} (hz : L[b]? = some z) : (L.filter fun x => decide (x.h ≠ z.h)) = L.take b ++ L.drop (b + 1) := by
  induction L generalizing b with
  | nil => simp at hz
  | cons y L ih =>
    rw [List.map_cons, List.nodup_cons] at hn
    cases b with
    | zero =>
      simp at hz
      subst hz
      rw [List.filter_cons]
      simp only [ne_eq, not_true_eq_false, decide_false]
      rw [if_neg (by simp), List.take_zero, List.nil_append, Nat.zero_add, List.drop_succ_cons, List.drop_zero]
      refine List.filter_eq_self.2 fun x hx => ?_
      simp only [decide_eq_true_eq]
      exact fun e => hn.1 (List.mem_map.2 ⟨x, hx, e⟩)
    | succ b =>
      simp at hz
      have hne : y.h ≠ z.h := fun e => hn.1 (List.mem_map.2 ⟨z, List.mem_of_getElem? hz, e.symm⟩)
      rw [List.filter_cons, if_pos (by simpa using hne), ih hn.2 hz, List.take_succ_cons, List.drop_succ_cons, List.cons_append]
theorem Acc.nodup {W : Wh} {inn : List Tm} (h : Acc W inn) (ok : WOk W) : (inn.map Tm.h).Nodup := ((h.perm.map Tm.h).nodup_iff).1 ok.inj
/-- Where a handle stands among the first i: nowhere, or at one place. -/
def HasH (h : Int) (L : List Tm) (i : Nat) : Option Nat → Prop
  | none => ∀ (j : Nat) (t : Tm), j < i → L[j]? = some t → t.h ≠ h
  | some b => b < i ∧ ∃ z, L[b]? = some z ∧ z.h = h
theorem HasH.next {h : Int} {L : List Tm} {i : Nat} {o : Option Nat} (hh : HasH h L i o) {t : Tm} (ht : L[i]? = some t) : (t.h = h → HasH h L (i + 1) (some i)) ∧ (t.h ≠ h → HasH h L (i + 1) o) := by
  refine ⟨fun e => ⟨by omega, t, ht, e⟩, fun e => ?_⟩
  cases o with
  | none =>
    intro j t' hj ht'
    by_cases q : j = i
    · subst q; rw [ht] at ht'; injection ht' with ht'; subst ht'; exact e
    · exact hh j t' (by omega) ht'
  | some b =>
    obtain ⟨h1, h2⟩ := hh
    exact ⟨by omega, h2⟩
/-- The distances of WheelFar. -/
def farD (r : Int) : Int := 2 ^ (r % 40).toNat + r / 40 % 100 - 50
theorem farD_rng {r : Int} (h0 : 0 ≤ r) (h1 : r ≤ 65535) : -50 ≤ farD r ∧ farD r ≤ 549755813937 ∧ 1 ≤ (2 : Int) ^ (r % 40).toNat ∧ (2 : Int) ^ (r % 40).toNat ≤ 549755813888 ∧ 0 ≤ r / 40 % 100 ∧ r / 40 % 100 ≤ 99 := by
  have h2 : (r % 40).toNat ≤ 39 := by omega
  have h3 : (2 : Int) ^ (r % 40).toNat ≤ 2 ^ 39 := by exact_mod_cast Nat.pow_le_pow_right (by omega) h2
  have h4 : 1 ≤ (2 : Int) ^ (r % 40).toNat := by exact_mod_cast Nat.one_le_two_pow
  have h5 : (2 : Int) ^ 39 = 549755813888 := by decide
  unfold farD
  refine ⟨by omega, by omega, h4, by omega, by omega, by omega⟩
theorem far_at {now r : Int} (n0 : 0 ≤ now) (n1 : now ≤ 2305843009213693952) (h0 : 0 ≤ r) (h1 : r ≤ 65535) : now < wrap64 (now + max 1 (wrap64 (wrap64 (2 ^ (r % 40).toNat + wrap64 ((IntKind.u16.wrap (r.tdiv 40)).tmod 100)) - 50))) ∧ wrap64 (now + max 1 (wrap64 (wrap64 (2 ^ (r % 40).toNat + wrap64 ((IntKind.u16.wrap (r.tdiv 40)).tmod 100)) - 50))) ≤ 4611686018427387904 := by
  obtain ⟨-, -, q3, q4, q5, q6⟩ := farD_rng h0 h1
  have e0 : r.tdiv 40 = r / 40 := Int.tdiv_eq_ediv_of_nonneg h0
  have e1 : IntKind.u16.wrap (r / 40) = r / 40 := IntWalk.u16_in _ (by omega)
  have e2 : (r / 40).tmod 100 = r / 40 % 100 := Int.tmod_eq_emod_of_nonneg (by omega)
  rw [e0, e1, e2]
  generalize (2 : Int) ^ (r % 40).toNat = P at *
  generalize r / 40 % 100 = Q at *
  have e3 : wrap64 Q = Q := IntWalk.wrap64_in _ (by omega)
  have e4 : wrap64 (P + Q) = P + Q := IntWalk.wrap64_in _ (by omega)
  have e5 : wrap64 (P + Q - 50) = P + Q - 50 := IntWalk.wrap64_in _ (by omega)
  rw [e3, e4, e5]
  have e6 : wrap64 (now + max 1 (P + Q - 50)) = now + max 1 (P + Q - 50) := IntWalk.wrap64_in _ (by omega)
  rw [e6]
  omega
end Go.Proofs.YtjlcchjcppkbjaaDoor

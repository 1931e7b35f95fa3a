/- WhRo: texts for the statements of this seat: contracts of functions, walks, plain laws. Conditions: none. -/
import Derived.Test.YtjlcchjcppkbjaaDoorWhFill
import Derived.Test.YtjlcchjcppkbjaaDoorGeAll
set_option linter.all false
/- How full a wheel is; handles are never given twice. -/
namespace Go.Proofs.YtjlcchjcppkbjaaDoor
open Go.RowKit
theorem room_len {l : List U} (h : ∀ s ∈ l, s.use ≠ 2147483648) : l.countP (fun s => !s.taken && s.use != 2147483648) + l.countP (·.taken) = l.length := by
  induction l with
  | nil => rfl
  | cons s l ih =>
    have i := ih fun x hx => h x (by simp [hx])
    have hs : (s.use != 2147483648) = true := by simpa using h s (by simp)
    rw [List.countP_cons, List.countP_cons, List.length_cons, hs, Bool.and_true]
    cases s.taken <;> simp <;> omega
variable {W W' : Wh}
theorem WOk.low (ok : WOk W) (hs : W.seq ≤ 1000000000) : ∀ s ∈ W.a.sl, s.use ≠ 2147483648 := fun s h => by have := ok.use s h; omega
theorem WOk.room (ok : WOk W) (hs : W.seq ≤ 1000000000) : W.a.room + W.l.length = W.a.sl.length := by
  rw [← ok.len]
  exact room_len (ok.low hs)
/-- The four ways of Add, by what the wheel is. -/
theorem add_four (ok : WOk W) (hs : W.seq ≤ 1000000000) (at_ id : Int) :
    ((at_ < 0 ∨ NEVER < at_) ∧ W.add at_ id = (W, 0, 2)) ∨ (0 ≤ at_ ∧ at_ ≤ NEVER ∧ at_ ≤ W.now ∧ W.add at_ id = (W, 0, 8)) ∨
    (W.now < at_ ∧ at_ ≤ NEVER ∧ W.l.length = W.a.sl.length ∧ W.add at_ id = (W, 0, 4)) ∨
    (W.now < at_ ∧ at_ ≤ NEVER ∧ W.l.length < W.a.sl.length ∧ ∃ W' h, W.add at_ id = (W', h, 0) ∧ WOk W' ∧ W'.now = W.now ∧ W'.seq = W.seq + 1 ∧ W'.l = ins ⟨at_, id, h, W.seq + 1⟩ W.l ∧ (∀ x ∈ W.l, x.h ≠ h) ∧ PutOk W.a W'.a h ∧ W.a.put id = (W'.a, h, 0)) := by
  have hnow := ok.now
  obtain ⟨W', h, e, hp⟩ : ∃ W' h e, W.add at_ id = (W', h, e) := ⟨_, _, _, rfl⟩
  have hp0 := hp
  unfold Wh.add at hp
  split at hp
  · rename_i h1
    exact .inl ⟨h1, by rw [hp0, ← hp]⟩
  rename_i h1
  split at hp
  · rename_i h2
    exact .inr (.inl ⟨by omega, by omega, h2, by rw [hp0, ← hp]⟩)
  rename_i h2
  split at hp
  · rename_i h3
    injection hp with e1 e2; injection e2 with e2 e3
    have e3' := e3.symm
    subst e3'
    rcases ok.add hp0 with ⟨q, -⟩ | ⟨-, r⟩
    · exact absurd rfl q
    · obtain ⟨r1, r2, r3, r4, r5, r6, r7, r8, r9⟩ := r
      refine .inr (.inr (.inr ⟨r2, r3, ?_, W', h, hp0, r1, r4, r5, r6, r7, r8, r9⟩))
      have l1 := r8.len
      have l2 := r8.size
      have l3 : W'.a.len ≤ W'.a.sl.length := List.countP_le_length
      have l4 := ok.len
      omega
  · rename_i h3
    refine .inr (.inr (.inl ⟨by omega, by omega, ?_, by rw [hp0, ← hp]⟩))
    obtain ⟨a', h', e', hput⟩ : ∃ a' h' e', W.a.put id = (a', h', e') := ⟨_, _, _, rfl⟩
    rcases put_spec ok.inv hput with ⟨z, -⟩ | ⟨-, -, -, hall⟩
    · rw [hput] at h3; exact absurd z h3
    · rw [← ok.len]
      show W.a.sl.countP (·.taken) = _
      rw [List.countP_eq_length]
      intro s hs'
      obtain ⟨k, hk⟩ := List.getElem?_of_mem hs'
      rcases hall k s hk with q | q
      · exact q
      · exact absurd q (ok.low hs s hs')
/-- A handle that was given once. -/
def Used (a : AA) (h : Int) : Prop := ∃ (k : Nat) (s : U) (u : Int), a.sl[k]? = some s ∧ h = 4096 * u + k ∧ u ≤ s.use
theorem put_used {a a' : AA} (I : AInv a) {v h : Int} (hp : a.put v = (a', h, 0)) : ¬ Used a h ∧ Used a' h ∧ ∀ g, Used a g → Used a' g := by
  have hl := I.len
  unfold AA.put at hp
  split at hp
  · rename_i k s r hk
    injection hp with e1 e2
    injection e2 with e2 e3
    obtain ⟨hs, -⟩ := pick_some I.toAOk hk
    have hkl := (List.getElem?_eq_some_iff.1 hs).1
    subst e1 e2
    have get : ∀ j, (a.fill k s v r).sl[j]? = if k = j then some { use := s.use + 1, taken := true, v := v } else a.sl[j]? := fun j => by
      simp only [AA.fill, List.getElem?_set]
      split
      · rename_i e; subst e; simp [hkl]
      · rfl
    refine ⟨?_, ⟨k, { use := s.use + 1, taken := true, v := v }, s.use + 1, by rw [get, if_pos rfl], rfl, Int.le_refl _⟩, ?_⟩
    · rintro ⟨k', s', u, h1, h2, h3⟩
      have hk' := (List.getElem?_eq_some_iff.1 h1).1
      have e : k' = k := by omega
      subst e
      rw [hs] at h1
      injection h1 with h1
      subst h1
      omega
    · rintro g ⟨k', s', u, h1, h2, h3⟩
      by_cases e : k = k'
      · subst e
        rw [hs] at h1
        injection h1 with h1
        subst h1
        exact ⟨k, _, u, by rw [get, if_pos rfl], h2, by simp only; omega⟩
      · exact ⟨k', s', u, by rw [get, if_neg e]; exact h1, h2, h3⟩
  · injection hp with e1 e2
    injection e2 with e2 e3
    exact absurd e3 (by decide)
theorem free_used {a : AA} {h g : Int} (U0 : Used a g) : Used (a.free h).1 g := by
  unfold AA.free
  split
  · rename_i k s hf
    obtain ⟨k', s', u, h1, h2, h3⟩ := U0
    unfold AA.find at hf
    split at hf
    · cases hf
    · split at hf
      · rename_i s2 hs2
        split at hf
        · injection hf with hf
          injection hf with e1 e2
          subst e1 e2
          have hlt := (List.getElem?_eq_some_iff.1 hs2).1
          by_cases e : (h % 4096).toNat = k'
          · rw [e] at hs2
            rw [h1] at hs2
            injection hs2 with hs2
            subst hs2
            refine ⟨k', { s' with taken := false }, u, ?_, h2, h3⟩
            simp only [List.getElem?_set, e]
            rw [if_pos trivial, if_pos (by rw [← e]; exact hlt)]
          · refine ⟨k', s', u, ?_, h2, h3⟩
            simp only [List.getElem?_set, if_neg e]
            exact h1
        · cases hf
      · cases hf
  · exact U0
theorem find_used {a : AA} (ok : AOk a) {h : Int} (q : (a.find h).isSome = true) : Used a h := by
  obtain ⟨k, s, h1, h2, h3⟩ := (find_isSome ok h).1 q
  exact ⟨k, s, s.use, h1, h3.symm, Int.le_refl _⟩
/-- A timer that came and went. -/
theorem add_cancel (ok : WOk W) (hs : W.seq ≤ 1000000000) {at_ id h : Int} {W1 : Wh} (hp : W.add at_ id = (W1, h, 0)) :
    ∃ W2, W1.cancel h = (W2, 0) ∧ WOk W2 ∧ W2.now = W.now ∧ W2.seq = W.seq + 1 ∧ W2.l = W.l ∧ W2.a.sl.length = W.a.sl.length ∧ Used W2.a h ∧ W2.cancel h = (W2, 5) ∧ 4096 ≤ h ∧ h ≤ 8796093026303 ∧ W1.seq = W.seq + 1 := by
  rcases ok.add hp with ⟨q, -⟩ | ⟨-, ok1, r2, r3, r4, r5, r6, r7, r8, r9⟩
  · exact absurd rfl q
  have hx : (⟨at_, id, h, W.seq + 1⟩ : Tm) ∈ W1.l := by rw [r6]; exact mem_ins.2 (.inl rfl)
  have hc := cancel_some (W := W1) hx rfl
  have hok := ok1.cancel hx
  have hl : (W1.l.filter fun x => decide (x.h ≠ h)) = W.l := by
    rw [r6]
    unfold ins
    rw [List.filter_append, List.filter_cons]
    simp only [ne_eq, not_true_eq_false, decide_false]
    rw [if_neg (by simp), ← List.filter_append, due_rest]
    exact List.filter_eq_self.2 fun y hy => by simpa using r7 y hy
  refine ⟨_, hc, hok.1, r4, r5, hl, hok.2.size.trans r8.size, ?_, ?_, r8.hlo, r8.hhi, r5⟩
  · exact free_used (put_used ok.inv r9).2.1
  · refine cancel_none fun x hx2 => ?_
    simp only at hx2
    rw [hl] at hx2
    exact r7 x hx2
end Go.Proofs.YtjlcchjcppkbjaaDoor
/- Contracts with two wheels side by side. -/
namespace Go.Proofs.YtjlcchjcppkbjaaDoor
open Go.RowKit
variable {w0 w : World} {F : Nat → Prop} {B1 B2 : Nat} {W1 W2 W' : Wh}
theorem d_add {at_ id : Int} (h : Wl2 w0 w F B1 B2 W1 W2) (hs : W1.seq ≤ 1000000000) {hd er : Int} (hp : W1.add at_ id = (W', hd, er)) :
    Calls Tryd.prog 15 #[.pointer (some ⟨B1, 0, none⟩), .int .i64 at_, .int .i64 id] w fun e w' => e = .returned (.tuple #[.int .i64 hd, .int .i64 er]) ∧ Wl2 w0 w' F B1 B2 W' W2 ∧ Kept (fun b => ¬ F b) w w' := by
  obtain ⟨G, h1, hG, back⟩ := h.first
  refine (l_add h1 hs hp).mono ?_
  rintro e w' ⟨rfl, h2, K⟩
  exact ⟨rfl, (back w' (fun _ => False) W' (fun _ h => h.elim) (h2.mono fun b q => q.elim (fun h => h) (fun h => h.elim)) K).mono (fun b q => .inl q), K.mono fun b _ q f => q (hG b f)⟩
theorem d_cancel {hd : Int} (h : Wl2 w0 w F B1 B2 W1 W2) (h0 : -9223372036854775808 ≤ hd) (h1' : hd ≤ 9223372036854775807) {er : Int} (hp : W1.cancel hd = (W', er)) :
    Calls Tryd.prog 20 #[.pointer (some ⟨B1, 0, none⟩), .int .i64 hd] w fun e w' => e = .returned (.int .i64 er) ∧ Wl2 w0 w' F B1 B2 W' W2 ∧ Kept (fun b => ¬ F b) w w' := by
  obtain ⟨G, h1, hG, back⟩ := h.first
  refine (l_cancel h1 h0 h1' hp).mono ?_
  rintro e w' ⟨rfl, h2, K⟩
  exact ⟨rfl, (back w' (fun _ => False) W' (fun _ h => h.elim) (h2.mono fun b q => q.elim (fun h => h) (fun h => h.elim)) K).mono (fun b q => .inl q), K.mono fun b _ q f => q (hG b f)⟩
theorem d_advance {lim : Int} (h : Wl2 w0 w F B1 B2 W1 W2) {l : List Tm} {er : Int} (hp : W1.advance lim = (W', l, er)) :
    Calls Tryd.prog 17 #[.pointer (some ⟨B1, 0, none⟩), .int .i64 lim] w fun e w' => ∃ v, e = .returned (.tuple #[v, .int .i64 er]) ∧ Own w' w.heap.size v (l.map Tm.fd) ∧ Wl2 w0 w' (fun b => F b ∨ v.ownBlock = some b) B1 B2 W' W2 ∧ Kept (fun b => ¬ F b) w w' := by
  obtain ⟨G, h1, hG, back⟩ := h.first
  refine (l_advance h1 hp).mono ?_
  rintro e w' ⟨v, rfl, ho, h2, K⟩
  exact ⟨v, rfl, ho, back w' (fun b => v.ownBlock = some b) W' (fun b q => (ownsRow_block ho q).1) h2 K, K.mono fun b _ q f => q (hG b f)⟩
theorem d_list (h : Wl2 w0 w F B1 B2 W1 W2) :
    Calls Tryd.prog 24 #[.pointer (some ⟨B1, 0, none⟩)] w fun e w' => ∃ v, e = .returned v ∧ Own w' w.heap.size v (W1.l.map Tm.fd) ∧ Wl2 w0 w' (fun b => F b ∨ v.ownBlock = some b) B1 B2 W1 W2 ∧ Kept (fun _ => False) w w' := by
  obtain ⟨G, h1, hG, back⟩ := h.first
  refine (l_list h1).mono ?_
  rintro e w' ⟨v, rfl, ho, h2, K⟩
  exact ⟨v, rfl, ho, back w' (fun b => v.ownBlock = some b) W1 (fun b q => (ownsRow_block ho q).1) h2 (K.mono fun _ _ h => h.elim), K⟩
theorem d_now (h : Wl2 w0 w F B1 B2 W1 W2) : Calls Tryd.prog 21 #[.pointer (some ⟨B1, 0, none⟩)] w fun e w' => e = .returned (.int .i64 W1.now) ∧ w' = w := let ⟨_, h1, _⟩ := h.first; l_now h1
theorem d_len (h : Wl2 w0 w F B1 B2 W1 W2) : Calls Tryd.prog 16 #[.pointer (some ⟨B1, 0, none⟩)] w fun e w' => e = .returned (.int .i64 W1.l.length) ∧ w' = w := let ⟨_, h1, _⟩ := h.first; l_len h1
theorem d_room (h : Wl2 w0 w F B1 B2 W1 W2) : Calls Tryd.prog 22 #[.pointer (some ⟨B1, 0, none⟩)] w fun e w' => e = .returned (.int .i64 W1.a.room) ∧ Wl2 w0 w' F B1 B2 W1 W2 ∧ Kept (fun _ => False) w w' := by
  obtain ⟨_, h1, _⟩ := h.first
  exact (l_room h1).mono fun e w' q => ⟨q.1, h.same q.2, q.2⟩
/-- Copy makes two of one. -/
theorem d_copy (h : Wl w0 w F B1 W1) (hF : ∀ b, F b → b < w.heap.size) :
    Calls Tryd.prog 26 #[.pointer (some ⟨B1, 0, none⟩)] w fun e w' => ∃ B2, e = .returned (.pointer (some ⟨B2, 0, none⟩)) ∧ Wl2 w0 w' F B1 B2 W1 W1 ∧ Kept (fun _ => False) w w' := by
  refine (l_copy h).mono ?_
  rintro e w' ⟨B2, rfl, ⟨kd, I, hW⟩, K⟩
  exact ⟨B2, rfl, Wl2.of_copy hW I h.kept0.size hF, K⟩
end Go.Proofs.YtjlcchjcppkbjaaDoor
/- Rows of others that grow beside wheels. -/
namespace Go.Proofs.YtjlcchjcppkbjaaDoor
open Go.RowKit
variable {w w' w0 : World} {F G S : Nat → Prop} {B B1 B2 : Nat} {W W1 W2 : Wh}
theorem Wl.grow (h : Wl w0 w F B W) (K : Kept S w w') (hS : ∀ b, S b → F b) (hS0 : ∀ b, b < w0.heap.size → ¬ S b) (hG : ∀ b, G b → b < w'.heap.size ∧ (F b ∨ w.heap.size ≤ b)) : Wl w0 w' G B W := by
  obtain ⟨t, kd, h1, h2, h3⟩ := h
  refine ⟨t, kd, h1.kept K (fun b q s => q (h2 b (hS b s)).2), fun b q => ⟨(hG b q).1, ?_⟩, h3.trans K (fun b hb s => hS0 b hb s)⟩
  rcases (hG b q).2 with q | q
  · exact (h2 b q).2
  · by_cases e : kd b = 0
    · exact e
    · have := (h1.lo b e).2; omega
theorem Wl2.grow (h : Wl2 w0 w F B1 B2 W1 W2) (K : Kept S w w') (hS : ∀ b, S b → F b) (hS0 : ∀ b, b < w0.heap.size → ¬ S b) (hG : ∀ b, G b → b < w'.heap.size ∧ (F b ∨ w.heap.size ≤ b)) : Wl2 w0 w' G B1 B2 W1 W2 := by
  obtain ⟨t, k1, k2, h1, h2, h3, h4, h5⟩ := h
  refine ⟨t, k1, k2, h1.kept K (fun b q s => q (h3 b (hS b s)).2.1), h2.kept K (fun b q s => q (h3 b (hS b s)).2.2), fun b q => ⟨(hG b q).1, ?_⟩, h4, h5.trans K (fun b hb s => hS0 b hb s)⟩
  rcases (hG b q).2 with q | q
  · exact (h3 b q).2
  · constructor
    · by_cases e : k1 b = 0
      · exact e
      · have := (h1.lo b e).2; omega
    · by_cases e : k2 b = 0
      · exact e
      · have := (h2.lo b e).2; omega
end Go.Proofs.YtjlcchjcppkbjaaDoor

/- WhTri: texts for the statements of this seat: contracts of functions, walks, plain laws. Conditions: none. -/
import Derived.Test.YtjlcchjcppkbjaaDoorWhGrow
set_option linter.all false
/- Two wheels beside a third that stays as it is. -/
namespace Go.Proofs.YtjlcchjcppkbjaaDoor
open Go.RowKit
variable {w w' w0 : World} {F G S : Nat → Prop} {B B0 B1 B2 : Nat} {W W0 W1 W2 : Wh}
/-- Equal lists, told outright. -/
theorem same_t {v u : Value} {l : List Fd} (hl : Rows fdC 2 w v l) (hm : Rows fdC 2 w u l) (hll : l.length ≤ 1000000) : Calls Tryd.prog 19 #[v, u] w fun e w' => e = .returned (.bool true) ∧ Kept (fun _ => False) w w' := by
  refine (same_c hl hm hll).mono ?_
  rintro e w' ⟨rfl, K⟩
  exact ⟨by rw [decide_eq_true rfl], K⟩
def Wl3 (w0 w : World) (F : Nat → Prop) (B0 B1 B2 : Nat) (W0 W1 W2 : Wh) : Prop := ∃ k0 : Nat → Nat, IsW w w0.heap.size B0 k0 W0 ∧ Wl2 w0 w (fun b => F b ∨ k0 b ≠ 0) B1 B2 W1 W2 ∧ ∀ b, F b → k0 b = 0
theorem Wl3.same (h : Wl3 w0 w F B0 B1 B2 W0 W1 W2) (K : Kept (fun _ => False) w w') : Wl3 w0 w' F B0 B1 B2 W0 W1 W2 := by
  obtain ⟨k0, i0, h2, h3⟩ := h
  exact ⟨k0, i0.same K, h2.same K, h3⟩
theorem Wl3.mono (h : Wl3 w0 w F B0 B1 B2 W0 W1 W2) (hG : ∀ b, G b → F b) : Wl3 w0 w G B0 B1 B2 W0 W1 W2 := by
  obtain ⟨k0, i0, h2, h3⟩ := h
  exact ⟨k0, i0, h2.mono (fun b q => q.imp (hG b) id), fun b q => h3 b (hG b q)⟩
theorem Wl3.kept0 (h : Wl3 w0 w F B0 B1 B2 W0 W1 W2) : Kept (fun _ => False) w0 w := let ⟨_, _, h, _⟩ := h; h.kept0
theorem Wl3.tab (h : Wl3 w0 w F B0 B1 B2 W0 W1 W2) : Tab w := let ⟨_, _, h, _⟩ := h; h.tab
theorem Wl3.pair (h : Wl3 w0 w F B0 B1 B2 W0 W1 W2) : ∃ G : Nat → Prop, Wl2 w0 w G B1 B2 W1 W2 := let ⟨_, _, h, _⟩ := h; ⟨_, h⟩
theorem Wl3.fresh (h : Wl3 w0 w F B0 B1 B2 W0 W1 W2) (K : Kept (fun _ => False) w w') (hG : ∀ b, G b → b < w'.heap.size ∧ (F b ∨ w.heap.size ≤ b)) : Wl3 w0 w' G B0 B1 B2 W0 W1 W2 := by
  obtain ⟨k0, i0, h2, h3⟩ := h
  refine ⟨k0, i0.same K, h2.fresh K fun b q => ?_, fun b q => ?_⟩
  · rcases q with q | q
    · exact ⟨(hG b q).1, (hG b q).2.imp .inl id⟩
    · exact ⟨Nat.lt_of_lt_of_le (i0.lo b q).2 K.size, .inl (.inr q)⟩
  · rcases (hG b q).2 with q | q
    · exact h3 b q
    · by_cases e : k0 b = 0
      · exact e
      · have := (i0.lo b e).2; omega
theorem Wl3.swap (h : Wl3 w0 w F B0 B1 B2 W0 W1 W2) : Wl3 w0 w F B0 B2 B1 W0 W2 W1 := by
  obtain ⟨k0, i0, h2, h3⟩ := h
  exact ⟨k0, i0, h2.swap, h3⟩
/-- What the two do leaves the third alone. -/
theorem Wl3.step (h : Wl3 w0 w F B0 B1 B2 W0 W1 W2) : ∃ G : Nat → Prop, Wl2 w0 w G B1 B2 W1 W2 ∧ (∀ b, F b → G b) ∧ ∀ (w' : World) (N : Nat → Prop) (W1' W2' : Wh), (∀ b, N b → w.heap.size ≤ b) → Wl2 w0 w' (fun b => G b ∨ N b) B1 B2 W1' W2' → Kept (fun b => ¬ G b) w w' → Wl3 w0 w' (fun b => F b ∨ N b) B0 B1 B2 W0 W1' W2' := by
  obtain ⟨k0, i0, h2, h3⟩ := h
  refine ⟨_, h2, fun b q => .inl q, fun w' N W1' W2' hN h2' K => ⟨k0, i0.kept K (fun b q s => s (.inr q)), h2'.mono fun b q => ?_, fun b q => ?_⟩⟩
  · rcases q with (q | q) | q
    · exact .inl (.inl q)
    · exact .inr q
    · exact .inl (.inr q)
  · rcases q with q | q
    · exact h3 b q
    · by_cases e : k0 b = 0
      · exact e
      · have := (i0.lo b e).2; have := hN b q; omega
theorem t_add {W' : Wh} {at_ id : Int} (h : Wl3 w0 w F B0 B1 B2 W0 W1 W2) (hs : W1.seq ≤ 1000000000) {hd er : Int} (hp : W1.add at_ id = (W', hd, er)) :
    Calls Tryd.prog 15 #[.pointer (some ⟨B1, 0, none⟩), .int .i64 at_, .int .i64 id] w fun e w' => e = .returned (.tuple #[.int .i64 hd, .int .i64 er]) ∧ Wl3 w0 w' F B0 B1 B2 W0 W' W2 ∧ Kept (fun b => ¬ F b) w w' := by
  obtain ⟨G, h1, hG, back⟩ := h.step
  refine (d_add h1 hs hp).mono ?_
  rintro e w' ⟨rfl, h2, K⟩
  exact ⟨rfl, (back w' (fun _ => False) W' W2 (fun _ h => h.elim) (h2.mono fun b q => q.elim (fun h => h) (fun h => h.elim)) K).mono (fun b q => .inl q), K.mono fun b _ q f => q (hG b f)⟩
theorem t_cancel {W' : Wh} {hd : Int} (h : Wl3 w0 w F B0 B1 B2 W0 W1 W2) (h0 : -9223372036854775808 ≤ hd) (h1' : hd ≤ 9223372036854775807) {er : Int} (hp : W1.cancel hd = (W', er)) :
    Calls Tryd.prog 20 #[.pointer (some ⟨B1, 0, none⟩), .int .i64 hd] w fun e w' => e = .returned (.int .i64 er) ∧ Wl3 w0 w' F B0 B1 B2 W0 W' W2 ∧ Kept (fun b => ¬ F b) w w' := by
  obtain ⟨G, h1, hG, back⟩ := h.step
  refine (d_cancel h1 h0 h1' hp).mono ?_
  rintro e w' ⟨rfl, h2, K⟩
  exact ⟨rfl, (back w' (fun _ => False) W' W2 (fun _ h => h.elim) (h2.mono fun b q => q.elim (fun h => h) (fun h => h.elim)) K).mono (fun b q => .inl q), K.mono fun b _ q f => q (hG b f)⟩
theorem t_advance {W' : Wh} {lim : Int} (h : Wl3 w0 w F B0 B1 B2 W0 W1 W2) {l : List Tm} {er : Int} (hp : W1.advance lim = (W', l, er)) :
    Calls Tryd.prog 17 #[.pointer (some ⟨B1, 0, none⟩), .int .i64 lim] w fun e w' => ∃ v, e = .returned (.tuple #[v, .int .i64 er]) ∧ Own w' w.heap.size v (l.map Tm.fd) ∧ Wl3 w0 w' (fun b => F b ∨ v.ownBlock = some b) B0 B1 B2 W0 W' W2 ∧ Kept (fun b => ¬ F b) w w' := by
  obtain ⟨G, h1, hG, back⟩ := h.step
  refine (d_advance h1 hp).mono ?_
  rintro e w' ⟨v, rfl, ho, h2, K⟩
  exact ⟨v, rfl, ho, back w' (fun b => v.ownBlock = some b) W' W2 (fun b q => (ownsRow_block ho q).1) h2 K, K.mono fun b _ q f => q (hG b f)⟩
/-- Questions: nothing changes. -/
theorem t_list (h : Wl3 w0 w F B0 B1 B2 W0 W1 W2) : Calls Tryd.prog 24 #[.pointer (some ⟨B1, 0, none⟩)] w fun e w' => ∃ v, e = .returned v ∧ Own w' w.heap.size v (W1.l.map Tm.fd) ∧ Kept (fun _ => False) w w' := by
  obtain ⟨G, h1⟩ := h.pair
  refine (d_list h1).mono ?_
  rintro e w' ⟨v, rfl, ho, -, K⟩
  exact ⟨v, rfl, ho, K⟩
theorem t_now (h : Wl3 w0 w F B0 B1 B2 W0 W1 W2) : Calls Tryd.prog 21 #[.pointer (some ⟨B1, 0, none⟩)] w fun e w' => e = .returned (.int .i64 W1.now) ∧ w' = w := let ⟨_, h1⟩ := h.pair; d_now h1
theorem Wl3.zero (h : Wl3 w0 w F B0 B1 B2 W0 W1 W2) : Wl w0 w (fun _ => False) B0 W0 := by
  obtain ⟨k0, i0, h2, h3⟩ := h
  exact ⟨h2.1, k0, i0, fun b q => q.elim, h2.kept0⟩
/-- Two copies of one wheel. -/
theorem Wl3.of_copies {w1 w2 w3 : World} {k1 k2 : Nat → Nat} (I1 : IsW w2 w1.heap.size B1 k1 W) (I2 : IsW w3 w2.heap.size B2 k2 W) (h : Wl w0 w3 (fun b => k1 b ≠ 0 ∨ k2 b ≠ 0) B W) (hs : w0.heap.size ≤ w1.heap.size) (K : Kept (fun _ => False) w2 w3) (hs2 : w1.heap.size ≤ w2.heap.size) : Wl3 w0 w3 (fun _ => False) B B1 B2 W W W := by
  obtain ⟨t, k0, i0, i2, i3⟩ := h
  refine ⟨k0, i0, ⟨t, k1, k2, (I1.same K).base hs, I2.base (Nat.le_trans hs hs2), fun b q => ?_, fun b q => ?_, i3⟩, fun b q => q.elim⟩
  · rcases q with q | q
    · exact q.elim
    · refine ⟨(i0.lo b q).2, ?_, ?_⟩
      · by_cases e : k1 b = 0
        · exact e
        · exact absurd (i2 b (.inl e)).2 q
      · by_cases e : k2 b = 0
        · exact e
        · exact absurd (i2 b (.inr e)).2 q
  · by_cases e : k2 b = 0
    · exact e
    · have := (I2.lo b e).1; have := (I1.lo b q).2; omega
end Go.Proofs.YtjlcchjcppkbjaaDoor

/- WhDuo: texts for the statements of this seat: contracts of functions, walks, plain laws. Conditions: none. -/
import Derived.Test.YtjlcchjcppkbjaaDoorWhRoom
set_option linter.all false
/- Contracts with two wheels side by side. -/
namespace Go.Proofs.YtjlcchjcppkbjaaDoor
open Go.RowKit
variable {w0 w : World} {F : Nat → Prop} {B1 B2 : Nat} {W1 W2 W' : Wh}
theorem d_add {at_ id : Int} (h : Wl2 w0 w F B1 B2 W1 W2) (hs : W1.seq ≤ 1000000000) {hd er : Int} (hp : W1.add at_ id = (W', hd, er)) :
    Calls Tryd.prog 15 #[.pointer (some ⟨B1, 0, none⟩), .int .i64 at_, .int .i64 id] w fun e w' => e = .returned (.tuple #[.int .i64 hd, .int .i64 er]) ∧ Wl2 w0 w' F B1 B2 W' W2 ∧ Kept (fun b => ¬ F b) w w' := by
  obtain ⟨G, h1, hG, back⟩ := h.first
  refine (l_add h1 hs hp).mono ?_
  rintro e w' ⟨rfl, h2, K⟩
  exact ⟨rfl, (back w' (fun _ => False) W' (fun _ h => h.elim) (h2.mono fun b q => q.elim (fun h => h) (fun h => h.elim)) K).mono (fun b q => .inl q), K.mono fun b _ q f => q (hG b f)⟩
theorem d_cancel {hd : Int} (h : Wl2 w0 w F B1 B2 W1 W2) (h0 : -9223372036854775808 ≤ hd) (h1' : hd ≤ 9223372036854775807) {er : Int} (hp : W1.cancel hd = (W', er)) :
    Calls Tryd.prog 20 #[.pointer (some ⟨B1, 0, none⟩), .int .i64 hd] w fun e w' => e = .returned (.int .i64 er) ∧ Wl2 w0 w' F B1 B2 W' W2 ∧ Kept (fun b => ¬ F b) w w' := by
  obtain ⟨G, h1, hG, back⟩ := h.first
  refine (l_cancel h1 h0 h1' hp).mono ?_
  rintro e w' ⟨rfl, h2, K⟩
  exact ⟨rfl, (back w' (fun _ => False) W' (fun _ h => h.elim) (h2.mono fun b q => q.elim (fun h => h) (fun h => h.elim)) K).mono (fun b q => .inl q), K.mono fun b _ q f => q (hG b f)⟩
theorem d_advance {lim : Int} (h : Wl2 w0 w F B1 B2 W1 W2) {l : List Tm} {er : Int} (hp : W1.advance lim = (W', l, er)) :
    Calls Tryd.prog 17 #[.pointer (some ⟨B1, 0, none⟩), .int .i64 lim] w fun e w' => ∃ v, e = .returned (.tuple #[v, .int .i64 er]) ∧ Own w' w.heap.size v (l.map Tm.fd) ∧ Wl2 w0 w' (fun b => F b ∨ v.ownBlock = some b) B1 B2 W' W2 ∧ Kept (fun b => ¬ F b) w w' := by
  obtain ⟨G, h1, hG, back⟩ := h.first
  refine (l_advance h1 hp).mono ?_
  rintro e w' ⟨v, rfl, ho, h2, K⟩
  exact ⟨v, rfl, ho, back w' (fun b => v.ownBlock = some b) W' (fun b q => (ownsRow_block ho q).1) h2 K, K.mono fun b _ q f => q (hG b f)⟩
theorem d_list (h : Wl2 w0 w F B1 B2 W1 W2) :
    Calls Tryd.prog 24 #[.pointer (some ⟨B1, 0, none⟩)] w fun e w' => ∃ v, e = .returned v ∧ Own w' w.heap.size v (W1.l.map Tm.fd) ∧ Wl2 w0 w' (fun b => F b ∨ v.ownBlock = some b) B1 B2 W1 W2 ∧ Kept (fun _ => False) w w' := by
  obtain ⟨G, h1, hG, back⟩ := h.first
  refine (l_list h1).mono ?_
  rintro e w' ⟨v, rfl, ho, h2, K⟩
  exact ⟨v, rfl, ho, back w' (fun b => v.ownBlock = some b) W1 (fun b q => (ownsRow_block ho q).1) h2 (K.mono fun _ _ h => h.elim), K⟩
theorem d_now (h : Wl2 w0 w F B1 B2 W1 W2) : Calls Tryd.prog 21 #[.pointer (some ⟨B1, 0, none⟩)] w fun e w' => e = .returned (.int .i64 W1.now) ∧ w' = w := let ⟨_, h1, _⟩ := h.first; l_now h1
theorem d_len (h : Wl2 w0 w F B1 B2 W1 W2) : Calls Tryd.prog 16 #[.pointer (some ⟨B1, 0, none⟩)] w fun e w' => e = .returned (.int .i64 W1.l.length) ∧ w' = w := let ⟨_, h1, _⟩ := h.first; l_len h1
theorem d_room (h : Wl2 w0 w F B1 B2 W1 W2) : Calls Tryd.prog 22 #[.pointer (some ⟨B1, 0, none⟩)] w fun e w' => e = .returned (.int .i64 W1.a.room) ∧ Wl2 w0 w' F B1 B2 W1 W2 ∧ Kept (fun _ => False) w w' := by
  obtain ⟨_, h1, _⟩ := h.first
  exact (l_room h1).mono fun e w' q => ⟨q.1, h.same q.2, q.2⟩
/-- Copy makes two of one. -/
theorem d_copy (h : Wl w0 w F B1 W1) (hF : ∀ b, F b → b < w.heap.size) :
    Calls Tryd.prog 26 #[.pointer (some ⟨B1, 0, none⟩)] w fun e w' => ∃ B2, e = .returned (.pointer (some ⟨B2, 0, none⟩)) ∧ Wl2 w0 w' F B1 B2 W1 W1 ∧ Kept (fun _ => False) w w' := by
  refine (l_copy h).mono ?_
  rintro e w' ⟨B2, rfl, ⟨kd, I, hW⟩, K⟩
  exact ⟨B2, rfl, Wl2.of_copy hW I h.kept0.size hF, K⟩
end Go.Proofs.YtjlcchjcppkbjaaDoor

/- WhSt: texts for the statements of this seat: contracts of functions, walks, plain laws. Conditions: none. -/
import Derived.BigQuiet
import Derived.Test.YtjlcchjcppkbjaaDoorWhCp
import Derived.Test.YtjlcchjcppkbjaaDoorGeAll
set_option linter.all false
/- One wheel among other blocks: uniform contracts for the laws' walks. -/
namespace Go.Proofs.YtjlcchjcppkbjaaDoor
open Go.RowKit
variable {w w' : World} {bs b0 wb : Nat} {kd : Nat → Nat}
theorem IsW.base {W : Wh} (h : IsW w bs wb kd W) (hb : b0 ≤ bs) : IsW w b0 wb kd W := by
  obtain ⟨ok, ab, sb, cap, mb, ts, M, hts⟩ := h
  obtain ⟨⟨V, Q, C, P⟩, h0, h2, h3, h4, h5, h6, k1, k2, k3⟩ := M
  exact ⟨ok, ab, sb, cap, mb, ts, ⟨⟨V, Q, ⟨{ C.R with
    row := fun i hi => ownsRow_base (C.R.row i hi) hb
    lo := fun b q => ⟨Nat.le_trans hb (C.R.lo b q).1, (C.R.lo b q).2⟩ }, C.U, C.fz, C.fr⟩, P⟩, h0, h2, h3, h4, h5, h6, k1, k2, k3⟩, hts⟩
/-- Wheel W at block B; the blocks of F are others'; what was there at w0 is as it was. -/
def Wl (w0 w : World) (F : Nat → Prop) (B : Nat) (W : Wh) : Prop := Tab w0 ∧ ∃ kd, IsW w w0.heap.size B kd W ∧ (∀ b, F b → b < w.heap.size ∧ kd b = 0) ∧ Kept (fun _ => False) w0 w
variable {w0 : World} {F G : Nat → Prop} {B : Nat} {W W' : Wh}
theorem Wl.ok (h : Wl w0 w F B W) : WOk W := let ⟨_, _, h, _⟩ := h; h.ok
theorem Wl.kept0 (h : Wl w0 w F B W) : Kept (fun _ => False) w0 w := let ⟨_, _, _, _, h⟩ := h; h
theorem Wl.tab (h : Wl w0 w F B W) : Tab w := h.1.kept h.kept0 (fun h => h)
theorem Wl.same (h : Wl w0 w F B W) (K : Kept (fun _ => False) w w') : Wl w0 w' F B W := by
  obtain ⟨t, kd, h1, h2, h3⟩ := h
  exact ⟨t, kd, h1.same K, fun b q => ⟨Nat.lt_of_lt_of_le (h2 b q).1 K.size, (h2 b q).2⟩, h3.trans K (fun _ _ h => h)⟩
theorem Wl.mono (h : Wl w0 w F B W) (hG : ∀ b, G b → F b) : Wl w0 w G B W := by
  obtain ⟨t, kd, h1, h2, h3⟩ := h
  exact ⟨t, kd, h1, fun b q => h2 b (hG b q), h3⟩
/-- Blocks made since belong to no wheel. -/
theorem Wl.fresh (h : Wl w0 w F B W) (K : Kept (fun _ => False) w w') (hG : ∀ b, G b → b < w'.heap.size ∧ (F b ∨ w.heap.size ≤ b)) : Wl w0 w' G B W := by
  obtain ⟨t, kd, h1, h2, h3⟩ := h
  refine ⟨t, kd, h1.same K, fun b q => ⟨(hG b q).1, ?_⟩, h3.trans K (fun _ _ h => h)⟩
  rcases (hG b q).2 with q | q
  · exact (h2 b q).2
  · by_cases e : kd b = 0
    · exact e
    · have := (h1.lo b e).2; omega
/-- Writes to blocks of F. -/
theorem Wl.writeF {S : Nat → Prop} (h : Wl w0 w F B W) (K : Kept S w w') (hS : ∀ b, S b → F b) (hS0 : ∀ b, b < w0.heap.size → ¬ S b) : Wl w0 w' F B W := by
  obtain ⟨t, kd, h1, h2, h3⟩ := h
  exact ⟨t, kd, h1.kept K (fun b q s => q (h2 b (hS b s)).2), fun b q => ⟨Nat.lt_of_lt_of_le (h2 b q).1 K.size, (h2 b q).2⟩, h3.trans K (fun b hb s => hS0 b hb s)⟩
theorem Wl.of_step {kd : Nat → Nat} (t : Tab w0) (h1 : IsW w w0.heap.size B kd W) (h2 : ∀ b, F b → b < w.heap.size ∧ kd b = 0) (h3 : Kept (fun _ => False) w0 w) (s : StepW w w0.heap.size B kd W' w') : Wl w0 w' F B W' ∧ Kept (fun b => ¬ F b) w w' := by
  obtain ⟨kd', i, hk, K⟩ := s
  exact ⟨⟨t, kd', i, fun b q => ⟨Nat.lt_of_lt_of_le (h2 b q).1 K.size, (hk b (h2 b q).1).trans (h2 b q).2⟩, h3.trans K (fun b hb q => by have := (h1.lo b q).1; omega)⟩, K.mono fun b _ q f => q (h2 b f).2⟩
theorem l_new {n now : Int} (hT : Tab w0) (K : Kept (fun _ => False) w0 w) (hF : ∀ b, F b → b < w.heap.size) (h0 : 0 ≤ n) (h1 : n ≤ 4096) (h2 : 0 ≤ now) (h3 : now ≤ 4611686018427387904) :
    Calls Tryd.prog 14 #[.int .i64 n, .int .i64 now] w fun e w' => ∃ B, e = .returned (.tuple #[.pointer (some ⟨B, 0, none⟩), .int .i64 0]) ∧ Wl w0 w' F B (Wh.new n.toNat now) ∧ Kept (fun _ => False) w w' := by
  refine (wnew_c n now w h0 h1 h2 h3).mono ?_
  rintro e w' ⟨B, kd, rfl, I, K2⟩
  refine ⟨B, rfl, ⟨hT, kd, I.base K.size, fun b q => ⟨Nat.lt_of_lt_of_le (hF b q) K2.size, ?_⟩, K.trans K2 (fun _ _ h => h)⟩, K2⟩
  by_cases e : kd b = 0
  · exact e
  · have := (I.lo b e).1; have := hF b q; omega
theorem l_add {at_ id : Int} (h : Wl w0 w F B W) (hs : W.seq ≤ 1000000000) {hd er : Int} (hp : W.add at_ id = (W', hd, er)) :
    Calls Tryd.prog 15 #[.pointer (some ⟨B, 0, none⟩), .int .i64 at_, .int .i64 id] w fun e w' => e = .returned (.tuple #[.int .i64 hd, .int .i64 er]) ∧ Wl w0 w' F B W' ∧ Kept (fun b => ¬ F b) w w' := by
  obtain ⟨t, kd, h1, h2, h3⟩ := h
  refine (add_c h1 hs at_ id hp).mono ?_
  rintro e w' ⟨rfl, s⟩
  exact ⟨rfl, Wl.of_step t h1 h2 h3 s⟩
theorem l_cancel {hd : Int} (h : Wl w0 w F B W) (h0 : -9223372036854775808 ≤ hd) (h1 : hd ≤ 9223372036854775807) {er : Int} (hp : W.cancel hd = (W', er)) :
    Calls Tryd.prog 20 #[.pointer (some ⟨B, 0, none⟩), .int .i64 hd] w fun e w' => e = .returned (.int .i64 er) ∧ Wl w0 w' F B W' ∧ Kept (fun b => ¬ F b) w w' := by
  obtain ⟨t, kd, h1', h2, h3⟩ := h
  refine (cancel_c h1' hd h0 h1 hp).mono ?_
  rintro e w' ⟨rfl, s⟩
  exact ⟨rfl, Wl.of_step t h1' h2 h3 s⟩
theorem l_advance {lim : Int} (h : Wl w0 w F B W) {l : List Tm} {er : Int} (hp : W.advance lim = (W', l, er)) :
    Calls Tryd.prog 17 #[.pointer (some ⟨B, 0, none⟩), .int .i64 lim] w fun e w' => ∃ v, e = .returned (.tuple #[v, .int .i64 er]) ∧ Own w' w.heap.size v (l.map Tm.fd) ∧ Wl w0 w' (fun b => F b ∨ v.ownBlock = some b) B W' ∧ Kept (fun b => ¬ F b) w w' := by
  have hT := h.tab
  obtain ⟨t, kd, h1, h2, h3⟩ := h
  have hb0 : 0 < w0.heap.size := t.lt
  refine (advance_c hT hb0 h1 lim hp).mono ?_
  rintro e w' ⟨v, rfl, ho, kd', i, hk, hv, K⟩
  refine ⟨v, rfl, ho, ⟨t, kd', i, fun b q => ?_, h3.trans K (fun b hb q => by have := (h1.lo b q).1; omega)⟩, K.mono fun b _ q f => q (h2 b f).2⟩
  rcases q with q | q
  · exact ⟨Nat.lt_of_lt_of_le (h2 b q).1 K.size, (hk b (h2 b q).1).trans (h2 b q).2⟩
  · exact ⟨(ownsRow_block ho q).2, hv b q⟩
theorem l_next (h : Wl w0 w F B W) {n : Int} {b : Bool} (hp : W.next = (n, b)) :
    Calls Tryd.prog 25 #[.pointer (some ⟨B, 0, none⟩)] w fun e w' => e = .returned (.tuple #[.int .i64 n, .bool b]) ∧ Wl w0 w' F B W ∧ Kept (fun _ => False) w w' := by
  have hT := h.tab
  have h' := h
  obtain ⟨t, kd, h1, h2, h3⟩ := h
  refine (next_c hT h1 hp).mono ?_
  rintro e w' ⟨rfl, K⟩
  exact ⟨rfl, h'.same K, K⟩
theorem l_list (h : Wl w0 w F B W) :
    Calls Tryd.prog 24 #[.pointer (some ⟨B, 0, none⟩)] w fun e w' => ∃ v, e = .returned v ∧ Own w' w.heap.size v (W.l.map Tm.fd) ∧ Wl w0 w' (fun b => F b ∨ v.ownBlock = some b) B W ∧ Kept (fun _ => False) w w' := by
  have h' := h
  obtain ⟨t, kd, h1, h2, h3⟩ := h
  refine (list_c h1).mono ?_
  rintro e w' ⟨v, rfl, ho, K⟩
  refine ⟨v, rfl, ho, h'.fresh K fun b q => ?_, K⟩
  rcases q with q | q
  · exact ⟨Nat.lt_of_lt_of_le (h2 b q).1 K.size, .inl q⟩
  · have := ownsRow_block ho q; exact ⟨this.2, .inr this.1⟩
theorem l_now (h : Wl w0 w F B W) : Calls Tryd.prog 21 #[.pointer (some ⟨B, 0, none⟩)] w fun e w' => e = .returned (.int .i64 W.now) ∧ w' = w := by
  obtain ⟨t, kd, ⟨ok, ab, sb, cap, mb, ts, M, hts⟩, h2, h3⟩ := h
  exact now_c M
theorem l_len (h : Wl w0 w F B W) : Calls Tryd.prog 16 #[.pointer (some ⟨B, 0, none⟩)] w fun e w' => e = .returned (.int .i64 W.l.length) ∧ w' = w := by
  obtain ⟨t, kd, ⟨ok, ab, sb, cap, mb, ts, M, hts⟩, h2, h3⟩ := h
  have := len_c M
  rw [← hts, List.length_map]
  exact this
theorem l_room (h : Wl w0 w F B W) : Calls Tryd.prog 22 #[.pointer (some ⟨B, 0, none⟩)] w fun e w' => e = .returned (.int .i64 W.a.room) ∧ Kept (fun _ => False) w w' := by
  obtain ⟨t, kd, ⟨ok, ab, sb, cap, mb, ts, M, hts⟩, h2, h3⟩ := h
  exact wroom_c M
/-- Copy: a second wheel, its blocks are others than the first's. -/
theorem l_copy (h : Wl w0 w F B W) :
    Calls Tryd.prog 26 #[.pointer (some ⟨B, 0, none⟩)] w fun e w' => ∃ B2, e = .returned (.pointer (some ⟨B2, 0, none⟩)) ∧ (∃ kd, IsW w' w.heap.size B2 kd W ∧ Wl w0 w' (fun b => F b ∨ kd b ≠ 0) B W) ∧ Kept (fun _ => False) w w' := by
  have h' := h
  obtain ⟨t, kd, h1, h2, h3⟩ := h
  refine (wcopy_c h1).mono ?_
  rintro e w' ⟨B2, kd2, rfl, I, K⟩
  refine ⟨B2, rfl, ⟨kd2, I, h'.fresh K fun b q => ?_⟩, K⟩
  rcases q with q | q
  · exact ⟨Nat.lt_of_lt_of_le (h2 b q).1 K.size, .inl q⟩
  · have := I.lo b q; exact ⟨this.2, .inr this.1⟩
/-- Two wheels side by side. -/
def Wl2 (w0 w : World) (F : Nat → Prop) (B1 B2 : Nat) (W1 W2 : Wh) : Prop := Tab w0 ∧ ∃ k1 k2, IsW w w0.heap.size B1 k1 W1 ∧ IsW w w0.heap.size B2 k2 W2 ∧ (∀ b, F b → b < w.heap.size ∧ k1 b = 0 ∧ k2 b = 0) ∧ (∀ b, k1 b ≠ 0 → k2 b = 0) ∧ Kept (fun _ => False) w0 w
variable {B1 B2 : Nat} {W1 W2 : Wh}
theorem Wl2.swap (h : Wl2 w0 w F B1 B2 W1 W2) : Wl2 w0 w F B2 B1 W2 W1 := by
  obtain ⟨t, k1, k2, h1, h2, h3, h4, h5⟩ := h
  exact ⟨t, k2, k1, h2, h1, fun b q => ⟨(h3 b q).1, (h3 b q).2.2, (h3 b q).2.1⟩, fun b q => by
    by_cases e : k1 b = 0
    · exact e
    · exact absurd (h4 b e) q, h5⟩
theorem Wl2.same (h : Wl2 w0 w F B1 B2 W1 W2) (K : Kept (fun _ => False) w w') : Wl2 w0 w' F B1 B2 W1 W2 := by
  obtain ⟨t, k1, k2, h1, h2, h3, h4, h5⟩ := h
  exact ⟨t, k1, k2, h1.same K, h2.same K, fun b q => ⟨Nat.lt_of_lt_of_le (h3 b q).1 K.size, (h3 b q).2⟩, h4, h5.trans K (fun _ _ h => h)⟩
theorem Wl2.mono (h : Wl2 w0 w F B1 B2 W1 W2) (hG : ∀ b, G b → F b) : Wl2 w0 w G B1 B2 W1 W2 := by
  obtain ⟨t, k1, k2, h1, h2, h3, h4, h5⟩ := h
  exact ⟨t, k1, k2, h1, h2, fun b q => h3 b (hG b q), h4, h5⟩
theorem Wl2.fresh (h : Wl2 w0 w F B1 B2 W1 W2) (K : Kept (fun _ => False) w w') (hG : ∀ b, G b → b < w'.heap.size ∧ (F b ∨ w.heap.size ≤ b)) : Wl2 w0 w' G B1 B2 W1 W2 := by
  obtain ⟨t, k1, k2, h1, h2, h3, h4, h5⟩ := h
  refine ⟨t, k1, k2, h1.same K, h2.same K, fun b q => ⟨(hG b q).1, ?_⟩, h4, h5.trans K (fun _ _ h => h)⟩
  rcases (hG b q).2 with q | q
  · exact (h3 b q).2
  · constructor
    · by_cases e : k1 b = 0
      · exact e
      · have := (h1.lo b e).2; omega
    · by_cases e : k2 b = 0
      · exact e
      · have := (h2.lo b e).2; omega
theorem Wl2.writeF {S : Nat → Prop} (h : Wl2 w0 w F B1 B2 W1 W2) (K : Kept S w w') (hS : ∀ b, S b → F b) (hS0 : ∀ b, b < w0.heap.size → ¬ S b) : Wl2 w0 w' F B1 B2 W1 W2 := by
  obtain ⟨t, k1, k2, h1, h2, h3, h4, h5⟩ := h
  exact ⟨t, k1, k2, h1.kept K (fun b q s => q (h3 b (hS b s)).2.1), h2.kept K (fun b q s => q (h3 b (hS b s)).2.2), fun b q => ⟨Nat.lt_of_lt_of_le (h3 b q).1 K.size, (h3 b q).2⟩, h4, h5.trans K (fun b hb s => hS0 b hb s)⟩
theorem Wl2.kept0 (h : Wl2 w0 w F B1 B2 W1 W2) : Kept (fun _ => False) w0 w := let ⟨_, _, _, _, _, _, _, h⟩ := h; h
theorem Wl2.tab (h : Wl2 w0 w F B1 B2 W1 W2) : Tab w := h.1.kept h.kept0 (fun h => h)
theorem Wl2.ok (h : Wl2 w0 w F B1 B2 W1 W2) : WOk W1 := let ⟨_, _, _, h, _⟩ := h; h.ok
/-- The first of two. -/
theorem Wl2.first (h : Wl2 w0 w F B1 B2 W1 W2) : ∃ G : Nat → Prop, Wl w0 w G B1 W1 ∧ (∀ b, F b → G b) ∧ ∀ (w' : World) (N : Nat → Prop) (W1' : Wh), (∀ b, N b → w.heap.size ≤ b) → Wl w0 w' (fun b => G b ∨ N b) B1 W1' → Kept (fun b => ¬ G b) w w' → Wl2 w0 w' (fun b => F b ∨ N b) B1 B2 W1' W2 := by
  obtain ⟨t, k1, k2, h1, h2, h3, h4, h5⟩ := h
  refine ⟨fun b => F b ∨ k2 b ≠ 0, ⟨t, k1, h1, fun b q => ?_, h5⟩, fun b q => .inl q, fun w' N W1' hN hW K => ?_⟩
  · rcases q with q | q
    · exact ⟨(h3 b q).1, (h3 b q).2.1⟩
    · refine ⟨(h2.lo b q).2, ?_⟩
      by_cases e : k1 b = 0
      · exact e
      · exact absurd (h4 b e) q
  · obtain ⟨-, k1', i1, i2, i3⟩ := hW
    refine ⟨t, k1', k2, i1, h2.kept K (fun b q s => s (.inr q)), fun b q => ?_, fun b q => ?_, i3⟩
    · rcases q with q | q
      · exact ⟨(i2 b (.inl (.inl q))).1, (i2 b (.inl (.inl q))).2, (h3 b q).2.2⟩
      · refine ⟨(i2 b (.inr q)).1, (i2 b (.inr q)).2, ?_⟩
        by_cases e : k2 b = 0
        · exact e
        · have := (h2.lo b e).2; have := hN b q; omega
    · by_cases e : k2 b = 0
      · exact e
      · exact absurd (i2 b (.inl (.inr e))).2 q
/-- A copy beside its wheel. -/
theorem Wl2.of_copy {kd : Nat → Nat} {w1 : World} (h : Wl w0 w' (fun b => F b ∨ kd b ≠ 0) B W) (I : IsW w' w1.heap.size B2 kd W) (K0 : w0.heap.size ≤ w1.heap.size) (hF : ∀ b, F b → b < w1.heap.size) : Wl2 w0 w' F B B2 W W := by
  obtain ⟨t, k1, i1, i2, i3⟩ := h
  refine ⟨t, k1, kd, i1, I.base K0, fun b q => ⟨(i2 b (.inl q)).1, (i2 b (.inl q)).2, ?_⟩, fun b q => ?_, i3⟩
  · by_cases e : kd b = 0
    · exact e
    · have := (I.lo b e).1; have := hF b q; omega
  · by_cases e : kd b = 0
    · exact e
    · exact absurd (i2 b (.inr e)).2 q
end Go.Proofs.YtjlcchjcppkbjaaDoor
/- same: two lists of fired timers. -/
namespace Go.Proofs.YtjlcchjcppkbjaaDoor
open Go.RowKit
variable {w w' : World}
/-- A place of a list of timers. -/
theorem fd_at {v : Value} {l : List Fd} (h : Rows fdC 2 w v l) {k : Nat} {x : Fd} (hk : l[k]? = some x) : ∃ b off c, v = .slice (some ⟨b, off, none⟩) l.length c ∧ w.cell? ⟨b, off + k * 2, none⟩ = some (.int .i64 x.1) ∧ w.cell? ⟨b, off + k * 2 + 1, none⟩ = some (.int .i64 x.2) ∧ b < w.heap.size := by
  have hlt := (List.getElem?_eq_some_iff.1 hk).1
  obtain ⟨b, off, c, rfl, h1, h2, h3⟩ := h.pos (by omega)
  exact ⟨b, off, c, rfl, h3 k x hk 0 _ rfl, h3 k x hk 1 _ rfl, h2⟩
set_option maxRecDepth 100000 in
set_option maxHeartbeats 4000000 in
theorem same_c {v u : Value} {l m : List Fd} (hl : Rows fdC 2 w v l) (hm : Rows fdC 2 w u m) (hll : l.length ≤ 1000000) : Calls Tryd.prog 19 #[v, u] w fun e w' => e = .returned (.bool (decide (l = m))) ∧ Kept (fun _ => False) w w' := by
  obtain ⟨p, c, rfl⟩ := hl.len
  obtain ⟨q, d, rfl⟩ := hm.len
  by_cases hlen : l.length = m.length
  · have hL := Lib.hid hl
    have HM : Hid (Rows fdC 2 w (.slice q m.length d) m) := Lib.hid hm
    have HN : Hid (∀ b off, q = some ⟨b, off, none⟩ → True) := Lib.hid fun _ _ _ => trivial
    clear hl hm
    have HLN := Lib.hid hlen
    rw [← hlen]
    clear hlen HN
    go_enter Tryd.func19, Tryd.ntmps19
    go_wp2_with fail
    go_loopw [5] (fun s5 wr => ∃ (k : Nat), k ≤ l.length ∧ s5 = .int .i64 k ∧ (∀ j, j < k → l[j]? = m[j]?) ∧ Kept (fun _ => False) w wr) (fun s5 _ => l.length - (intOf s5).toNat)
    case atStart => exact ⟨0, Nat.zero_le _, rfl, fun j h => by omega, Kept.refl _ _⟩
    case round =>
      obtain ⟨k, hk, rfl, heq, K⟩ := hrel
      have HE := Lib.hid heq
      have HK := Lib.hid K
      clear heq K
      by_cases hlt : k < l.length
      · obtain ⟨x, hx⟩ : ∃ x, l[k]? = some x := ⟨_, List.getElem?_eq_getElem hlt⟩
        obtain ⟨y, hy⟩ : ∃ y, m[k]? = some y := ⟨_, List.getElem?_eq_getElem (by have := HLN.out; omega)⟩
        obtain ⟨b, off, c', hv, a0, a1, bl⟩ := fd_at hL.out hx
        obtain ⟨b2, off2, c2', hv2, e0, e1, bl2⟩ := fd_at HM.out hy
        injection hv with hv _ hc
        injection hv2 with hv2 _ hc2
        subst hv hv2 hc hc2
        have f0 := (HK.out.cell (a := ⟨b, off + k * 2, none⟩) bl (fun h => h)).trans a0
        have f1 := (HK.out.cell (a := ⟨b, off + k * 2 + 1, none⟩) bl (fun h => h)).trans a1
        have g0 := (HK.out.cell (a := ⟨b2, off2 + k * 2, none⟩) bl2 (fun h => h)).trans e0
        have g1 := (HK.out.cell (a := ⟨b2, off2 + k * 2 + 1, none⟩) bl2 (fun h => h)).trans e1
        have j1 : (0 : Int) ≤ (k : Int) := by omega
        have j2 : (k : Int) < (l.length : Int) := by omega
        have HXY := Lib.hid (And.intro hx hy)
        clear a0 a1 e0 e1 hx hy
        by_cases hxy : x = y
        · subst hxy
          go_wp2_with fail
          go_quiet (fail)
          obtain ⟨nq1, hnq⟩ : ∃ n, n = nq := ⟨_, rfl⟩
          go_wp2_with fail
          go_roundw
          case rel =>
            refine ⟨k + 1, by omega, by go_num, fun j hj => ?_, HK.out.drewN nq⟩
            by_cases e : j = k
            · subst e; rw [HXY.out.1, HXY.out.2]
            · exact HE.out j (by omega)
          case measure => simp [intOf]; omega
        · obtain ⟨x1, x2⟩ := x
          obtain ⟨y1, y2⟩ := y
          have HNE : Hid (decide (l = m) = false) := Lib.hid (decide_eq_false fun e => by
            have h1 := HXY.out.1
            rw [e, HXY.out.2] at h1
            exact hxy (Option.some.inj h1).symm)
          dsimp only at f0 f1 g0 g1
          by_cases hx1 : x1 = y1
          · subst hx1
            have hx2 : ¬ x2 = y2 := fun e => hxy (by rw [e])
            have b2' : (x2 == y2) = false := by simpa using hx2
            have b3' : decide (x2 = y2) = false := by simpa using hx2
            clear hxy
            go_wp2_with fail
            go_quiet (fail)
            go_wp2_with fail
            go_ret
            exact ⟨by rw [HNE.out]; rfl, HK.out.drewN nq⟩
          · have b2' : (x1 == y1) = false := by simpa using hx1
            have b3' : decide (x1 = y1) = false := by simpa using hx1
            clear hxy
            go_wp2_with fail
            go_quiet (fail)
            go_wp2_with fail
            go_ret
            exact ⟨by rw [HNE.out]; rfl, HK.out.drewN nq⟩
      · obtain rfl : k = l.length := by omega
        have HX : Hid (l = m) := Lib.hid (List.ext_getElem? fun j => by
          by_cases e : j < l.length
          · exact HE.out j e
          · rw [List.getElem?_eq_none (by omega), List.getElem?_eq_none (by have := HLN.out; omega)])
        go_wp2_with fail
        go_ret
        exact ⟨by rw [decide_eq_true HX.out]; rfl, HK.out⟩
  · have hne : ¬ l = m := fun e => hlen (by rw [e])
    have hd : decide (l = m) = false := decide_eq_false hne
    have d1 : ((l.length : Int) != (m.length : Int)) = true := by simp; omega
    clear hl hm hne
    go_enter Tryd.func19, Tryd.ntmps19
    go_wp2_with fail
    go_ret
    exact ⟨by rw [hd]; rfl, Kept.refl _ _⟩
end Go.Proofs.YtjlcchjcppkbjaaDoor
/- works: the closed example. -/
namespace Go.Proofs.YtjlcchjcppkbjaaDoor
open Go.RowKit
def wk0 : Wh := Wh.new 3 100
def wk1 : Wh := (wk0.add 105 7).1
def wk2 : Wh := (wk1.add 103 8).1
def wk3 : Wh := (wk2.add 105 9).1
def wk4 : Wh := (wk3.advance 102).1
def wk5 : Wh := (wk4.advance 105).1
theorem wkA1 : wk0.add 105 7 = (wk1, 4096, 0) := by kernel_rfl
theorem wkA2 : wk1.add 103 8 = (wk2, 4097, 0) := by kernel_rfl
theorem wkA3 : wk2.add 105 9 = (wk3, 4098, 0) := by kernel_rfl
theorem wkA4 : wk3.add 106 1 = (wk3, 0, 4) := by kernel_rfl
theorem wkN : wk3.next = (103, true) := by kernel_rfl
theorem wkV1 : wk3.advance 102 = (wk4, [], 0) := by kernel_rfl
theorem wkV2 : wk4.advance 105 = (wk5, [⟨103, 8, 4097, 2⟩, ⟨105, 7, 4096, 1⟩, ⟨105, 9, 4098, 3⟩], 0) := by kernel_rfl
theorem wkE : wk5.now = 105 ∧ wk5.l = [] := ⟨by kernel_rfl, by kernel_rfl⟩
theorem wkS : wk0.seq = 0 ∧ wk1.seq = 1 ∧ wk2.seq = 2 ∧ wk3.seq = 3 := ⟨by kernel_rfl, by kernel_rfl, by kernel_rfl, by kernel_rfl⟩
def lst (a b c : Int × Int) : Array Value := #[.int .i64 a.1, .int .i64 a.2, .int .i64 b.1, .int .i64 b.2, .int .i64 c.1, .int .i64 c.2]
/-- A list of three, laid by the program. -/
theorem rows3 {w : World} {a b c : Fd} {t : TypeId} : Rows fdC 2 (w.alloc (.cells (lst a b c) t)) (.slice (some ⟨w.heap.size, 0, none⟩) 3 3) [a, b, c] := by
  refine .inr ⟨_, 0, 3, rfl, by simp, by simp, fun j x hx i u hu => ?_⟩
  rw [World.cell?_alloc_at _ _ _ _ rfl]
  match j, i with
  | 0, 0 => simp [fdC] at hx hu; subst hx hu; rfl
  | 0, 1 => simp [fdC] at hx hu; subst hx hu; rfl
  | 1, 0 => simp [fdC] at hx hu; subst hx hu; rfl
  | 1, 1 => simp [fdC] at hx hu; subst hx hu; rfl
  | 2, 0 => simp [fdC] at hx hu; subst hx hu; rfl
  | 2, 1 => simp [fdC] at hx hu; subst hx hu; rfl
  | j + 3, _ => simp at hx
  | _, i + 2 => simp [fdC] at hu
variable {w : World}
set_option maxRecDepth 100000 in
set_option maxHeartbeats 4000000 in
theorem works_c (hT : Tab w) : Calls Tryd.prog 13 #[] w fun e w' => e = .returned (.bool true) ∧ Kept (fun _ => False) w w' := by
  have HN := Lib.hid (l_new (F := fun _ => False) (n := 3) (now := 100) hT (Kept.refl _ w) (fun _ h => h.elim) (by omega) (by omega) (by omega) (by omega))
  have hS := wkS
  have HSQ : Hid (wk0.seq ≤ 1000000000 ∧ wk1.seq ≤ 1000000000 ∧ wk2.seq ≤ 1000000000 ∧ wk3.seq ≤ 1000000000) := Lib.hid (by omega)
  clear hS hT
  go_enter Tryd.func13, Tryd.ntmps13
  go_wp2_with (first | (go_at_call 14; refine HN.out.mono ?_; rintro e w1 ⟨B, rfl, h, -⟩; have H0 := Lib.hid (show Wl w w1 (fun _ => False) B wk0 from h); clear h) | (go_at_call 15; refine (l_add H3.out HSQ.out.2.2.2 wkA4).mono ?_; rintro e w5 ⟨rfl, h, -⟩; have H4 := Lib.hid h; clear h) | (go_at_call 15; refine (l_add H2.out HSQ.out.2.2.1 wkA3).mono ?_; rintro e w4 ⟨rfl, h, -⟩; have H3 := Lib.hid h; clear h) | (go_at_call 15; refine (l_add H1.out HSQ.out.2.1 wkA2).mono ?_; rintro e w3 ⟨rfl, h, -⟩; have H2 := Lib.hid h; clear h) | (go_at_call 15; refine (l_add H0.out HSQ.out.1 wkA1).mono ?_; rintro e w2 ⟨rfl, h, -⟩; have H1 := Lib.hid h; clear h) | (go_at_call 25; refine (l_next H4.out wkN).mono ?_; rintro e w6 ⟨rfl, h, -⟩; have H5 := Lib.hid h; clear h) | (go_at_call 17; refine (l_advance H6.out wkV2).mono ?_; rintro e w8 ⟨v, rfl, ho, h, -⟩; obtain ⟨p2, c2, rfl⟩ := ho.sl; have HO := Lib.hid ho; have H7 := Lib.hid h; clear ho h; have hn := wkE.1; have hl : (wk5.l.length : Int) = 0 := by rw [wkE.2]; rfl) | (go_at_call 17; refine (l_advance H5.out wkV1).mono ?_; rintro e w7 ⟨v, rfl, ho, h, -⟩; obtain ⟨p1, c1, rfl⟩ := ho.sl; clear ho; have H6 := Lib.hid h; clear h) |
    (go_at_call 19; refine (same_c (HO.out.same ((Kept.refl _ w8).alloc _)).rows (rows3 (w := w8) (a := (103, 8)) (b := (105, 7)) (c := (105, 9)) (t := 54)) (by decide)).mono ?_; rintro e w9 ⟨rfl, K⟩; have H8 := Lib.hid (H7.out.same (((Kept.refl _ w8).alloc _).trans K (fun _ _ h => h))); clear K) | (go_at_call 21; refine (l_now H8.out).mono ?_; rintro e w' ⟨rfl, hww⟩; obtain rfl := hww.symm) | (go_at_call 16; refine (l_len H8.out).mono ?_; rintro e w' ⟨rfl, hww⟩; obtain rfl := hww.symm))

  go_ret
  exact ⟨rfl, H8.out.kept0⟩
end Go.Proofs.YtjlcchjcppkbjaaDoor

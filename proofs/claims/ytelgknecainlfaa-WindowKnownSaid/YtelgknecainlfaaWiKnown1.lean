/- The chapter's examples and limits: what the contracts say of each. -/
import Derived.Test.YtelgknecainlfaaWiBusy2
import Derived.Test.YtelgknecainlfaaWiWith2
import Derived.Test.YtelgknecainlfaaWiBoundsW
import Derived.Test.YtelgknecainlfaaGeMake
namespace Go.Proofs.Ytelgknecainlfaa
open Go.RowKit
open Wi (vld Srt chk limB limE inS longE)

abbrev Says (f : Nat) (args : Array Value) (w : World) (rs : Array Value) : Prop := Calls Try.prog f args w fun e w' => e = .returned (.tuple rs) ∧ Kept (fun _ => False) w w'
theorem k_most_bad {w : World} {v : Value} {l : List Int} {L r : Int} (h : Ints w v l) (hl : l.length ≤ 4611686018427387904) (hE : mostE l L = r) (hr : r ≠ 0) : Says 22 #[v, .int .i64 L] w #[.int .i64 0, .int .i64 r] :=
  (most_c h hl L).mono fun e w' ⟨n, he, h1, _, K⟩ => by
    rw [if_neg (by rw [hE]; exact hr)] at h1
    subst h1
    rw [hE] at he
    exact ⟨he, K⟩
theorem k_most {w : World} {v : Value} {l : List Int} {L : Int} {n : Nat} (h : Ints w v l) (hl : l.length ≤ 4611686018427387904) (hE : mostE l L = 0) (hn : MaxOf (okp l L) n) : Says 22 #[v, .int .i64 L] w #[.int .i64 n, .int .i64 0] :=
  (most_c h hl L).mono fun e w' ⟨m, he, h1, _, K⟩ => by
    rw [if_pos hE] at h1
    have := h1.unique hn
    subst this
    rw [hE] at he
    exact ⟨he, K⟩
theorem k_bound {T U n x e : Int} (W : World) (h : boundF T U n = x) (h' : boundE T U n = e) : Says 19 #[.agg #[.int .i64 T, .int .i64 U], .int .i64 n] W #[.int .i64 x, .int .i64 e] := by
  subst h h'
  exact bound_c T U n W
theorem k_keeps_bad {w : World} {v : Value} {l : List Int} {T U r : Int} (h : Ints w v l) (hl : l.length ≤ 4611686018427387904) (hE : bothE T U l = r) (hr : r ≠ 0) : Says 15 #[.agg #[.int .i64 T, .int .i64 U], v] w #[.int .i64 0, .int .i64 0, .bool false, .int .i64 r] :=
  (keeps_c h hl T U).mono fun e w' ⟨i, j, is, he, h1, K⟩ => by
    rw [if_neg (by rw [hE]; exact hr)] at h1
    obtain ⟨rfl, rfl, rfl⟩ := h1
    rw [hE] at he
    exact ⟨he, K⟩
theorem k_keeps {w : World} {v : Value} {l : List Int} {T U i j : Int} {is : Bool} (h : Ints w v l) (hl : l.length ≤ 4611686018427387904) (hE : bothE T U l = 0) (hr : KeepsR T U l i j is) : Says 15 #[.agg #[.int .i64 T, .int .i64 U], v] w #[.int .i64 i, .int .i64 j, .bool is, .int .i64 0] :=
  (keeps_c h hl T U).mono fun e w' ⟨i', j', is', he, h1, K⟩ => by
    rw [if_pos hE] at h1
    obtain ⟨rfl, rfl, rfl⟩ := h1.unique hr
    rw [hE] at he
    exact ⟨he, K⟩
theorem k_thin {w : World} {v : Value} {l m : List Int} {T U r : Int} {n : Nat} (h : Ints w v l) (hl : l.length ≤ 4611686018427387904) (hE : bothE T U l = r) (hm : (if r = 0 then thinF T U l else []) = m) (hn : m.length = n) : Calls Try.prog 17 #[.agg #[.int .i64 T, .int .i64 U], v] w fun e w' => ∃ p c, e = .returned (.tuple #[.slice p n c, .int .i64 r]) ∧ Kept (fun _ => False) w w' :=
  (thin_c h hl T U).mono fun e w' ⟨u, he, hr⟩ => by
    rw [hE] at he hr
    rw [hm] at hr
    obtain ⟨p, c, rfl⟩ := hr.val
    rw [hn] at he
    exact ⟨p, c, he, hr.2.2⟩
theorem k_with {w : World} {v : Value} {l : List Int} {a b e : Int} (h : Ints w v l) (hl : l.length ≤ 4611686018427387904) (hE : withE l a b = e) (he : e ≠ 0) : Says 29 #[v, .int .i64 a, .int .i64 b] w #[.int .i64 0, .int .i64 e] := by
  have := within_c h hl a b
  unfold WithPost withF at this
  rw [if_neg (by rw [hE]; exact he), hE] at this
  exact this
theorem k_peak_bad {w : World} {v u : Value} {f g : List Int} {e : Int} (h : Ints w v f) (k : Ints w u g) (hl : f.length ≤ 4611686018427387904) (hl2 : g.length ≤ 4611686018427387904) (hE : runsE f g = e) (he : e ≠ 0) : Says 23 #[v, u] w #[.int .i64 0, .int .i64 0, .int .i64 e] :=
  (peak_c h k hl hl2).mono fun e' w' ⟨n, t, h1, h2, _, K⟩ => by
    rw [if_neg (by rw [hE]; exact he)] at h2
    obtain ⟨rfl, rfl⟩ := h2
    rw [hE] at h1
    exact ⟨h1, K⟩
theorem k_busy {w : World} {v u : Value} {f g : List Int} {a b e : Int} {n : Nat} (h : Ints w v f) (k : Ints w u g) (hl : f.length ≤ 4611686018427387904) (hl2 : g.length ≤ 4611686018427387904) (hE : busyE f g a b = e) (hn : busyV f g a b = n) : Says 25 #[v, u, .int .i64 a, .int .i64 b] w #[.int .i64 n, .int .i64 e] := by
  have := busy_c h k hl hl2 a b
  unfold BusyPost at this
  rw [hE, hn] at this
  exact this
theorem n_nil (w : World) : Ints w (.slice none 0 0) [] := .inl ⟨none, 0, rfl, rfl⟩
theorem many_ints {w : World} {base N : Nat} {v : Value} (h : w.ownsRow base 2 1 v N (madeCells (Value.int .i64 0).cells (N * 1)).toList) : Ints w v (List.replicate N 0) := by
  refine IntsK.of_own (base := base) (e := 2) ?_
  rw [List.length_replicate, List.map_replicate]
  have e : (madeCells (Value.int .i64 0).cells (N * 1)).toList = List.replicate N (Value.int .i64 0) := by
    show (madeCells #[Value.int .i64 0] (N * 1)).toList = _
    rw [Nat.mul_one, madeCells_one', Array.toList_replicate]
  rw [e] at h
  exact h
-- the values
theorem q_most1 : mostE [0, 0, 0, 5, 10, 40] 0 = 0 := by
  rw [mostE_long (chk_of (by decide) (by decide) (by decide))]; decide
theorem q_most2 : MaxOf (okp [0, 0, 0, 5, 10, 40] 0) 3 := by
  refine ⟨fun i j h => ?_, .inr ⟨0, 2, okB_iff.1 (by decide), rfl⟩⟩
  have hl := h.lt
  have h' := okB_iff.2 h
  have hi : i < 6 := Nat.lt_of_le_of_lt hl.1 hl.2
  have hj : j < 6 := hl.2
  have key : ∀ i < 6, ∀ j < 6, okB [0, 0, 0, 5, 10, 40] 0 i j = true → j + 1 ≤ 3 + i := by decide
  exact key i hi j hj h'
theorem q_both {T U : Int} {l : List Int} (h : limE T U = 0) (h1 : l.length ≤ 100000) (h2 : l.all vld = true) (h3 : srtB l = true) : bothE T U l = 0 := by
  unfold bothE
  rw [if_neg (by simp [h])]
  exact chk_of h1 h2 h3
theorem q_keeps1 : KeepsR 5 10 [0, 0, 0, 0] 0 3 false := by
  refine .inr ⟨rfl, 0, 3, rfl, rfl, by decide, eyB_iff.1 (by decide), fun a b hab hb h => ?_, fun a ha hab h => ?_⟩
  · have key : ∀ a < 4, ∀ b < 3, eyB 5 10 [0, 0, 0, 0] a b = false := by decide
    have := eyB_iff.2 h
    rw [key a (by omega) b hb] at this
    cases this
  · have key : ∀ a < 4, 0 < a → eyB 5 10 [0, 0, 0, 0] a 3 = false := by decide
    have := eyB_iff.2 h
    rw [key a (by omega) ha] at this
    cases this
theorem q_keeps2 : KeepsR 5 10 [0, 0, 0, 5, 10, 40] 0 0 true := by
  refine .inl ⟨rfl, rfl, rfl, fun a b hab h => ?_⟩
  have key : ∀ a < 6, ∀ b < 6, a < b → eyB 5 10 [0, 0, 0, 5, 10, 40] a b = false := by decide
  have := eyB_iff.2 h
  rw [key a h.lt.1 b h.lt.2 hab] at this
  cases this
theorem q_most_time : mostE [5, 3, -1] (-1) = 14 := by
  have hc : chk [5, 3, -1] = 14 := Wi.chk_time (by decide) (by decide)
  rw [mostE_many (by rw [hc]; decide), hc]
theorem q_most_order : mostE [5, 3] (-1) = 8 := by
  have hc : chk [5, 3] = 8 := Wi.chk_order (by decide) (by decide) (fun h => by have := srtB_iff.2 h; revert this; decide)
  rw [mostE_many (by rw [hc]; decide), hc]
theorem q_most_arg : mostE [3] (-1) = 2 := by
  rw [mostE_long (chk_of (by decide) (by decide) (by decide))]; decide
theorem q_most_nil : mostE [] 5 = 0 := by
  rw [mostE_long (chk_of (by decide) (by decide) (by decide))]; decide
theorem q_most_nil2 : MaxOf (okp [] 5) 0 := MaxOf.none fun i j h => by have := h.lt; simp at this
theorem q_with : withE [3] 0 253402300800 = 14 := by
  unfold withE
  have hc : chk [3] = 0 := chk_of (by decide) (by decide) (by decide)
  rw [if_neg (by simp [hc]), if_neg (by decide)]
theorem q_many1 {N : Nat} (_h : N = 100001) : bothE 0 1 (List.replicate N 0) = 16 := by
  unfold bothE; rw [if_pos (by decide)]
theorem q_many2 {N : Nat} (h : N = 100001) : bothE 5 10 (List.replicate N 0) = 12 := by
  unfold bothE; rw [if_neg (by decide)]; exact Wi.chk_many (by rw [List.length_replicate]; omega)
theorem q_many3 {N : Nat} (h : N = 100001) : runsE (List.replicate N 0) [] = 12 := by
  unfold runsE; rw [if_pos (by rw [List.length_replicate]; omega)]
end Go.Proofs.Ytelgknecainlfaa

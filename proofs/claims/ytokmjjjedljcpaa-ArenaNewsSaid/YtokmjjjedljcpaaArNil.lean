/- ArNil: texts for the statements of this seat: contracts of functions, walks, plain laws. Conditions: none. -/
import Derived.Test.YtokmjjjedljcpaaArLive2
import Derived.Test.YtokmjjjedljcpaaArW3
namespace Go.Proofs.Ytokmjjjedljcpaa
open Go.RowKit Go.Shelf

attribute [local go_sem] Oper.semAt_some

/-- An arena that New did not make. -/
structure IsZero (w : World) (zb : Nat) : Prop where
  made : w.cell? ⟨zb, 0, none⟩ = some (.bool false)
  slots : w.cell? ⟨zb, 1, none⟩ = some (.slice none 0 0)
  taken : w.cell? ⟨zb, 4, none⟩ = some (.int .i64 0)
  lost : w.cell? ⟨zb, 5, none⟩ = some (.int .i64 0)
  lt : zb < w.heap.size

theorem IsZero.kept {w w' : World} {zb : Nat} (h : IsZero w zb) (K : Kept (fun _ => False) w w') : IsZero w' zb :=
  ⟨(K.cell (a := ⟨zb, 0, none⟩) h.lt (fun h => h)).trans h.made, (K.cell (a := ⟨zb, 1, none⟩) h.lt (fun h => h)).trans h.slots,
   (K.cell (a := ⟨zb, 4, none⟩) h.lt (fun h => h)).trans h.taken, (K.cell (a := ⟨zb, 5, none⟩) h.lt (fun h => h)).trans h.lost, Nat.lt_of_lt_of_le h.lt K.size⟩

/-- No arena, or one that New did not make. -/
def IsNone (w : World) (p : Option Addr) : Prop := p = none ∨ ∃ zb, p = some ⟨zb, 0, none⟩ ∧ IsZero w zb
theorem IsNone.kept {w w' : World} {p : Option Addr} (h : IsNone w p) (K : Kept (fun _ => False) w w') : IsNone w' p := by
  rcases h with h | ⟨zb, h, z⟩
  · exact .inl h
  · exact .inr ⟨zb, h, z.kept K⟩

set_option maxHeartbeats 400000 in
theorem put_n (p : Option Addr) (v : Int) (w : World) (h : IsNone w p) : Calls Try.prog 11 #[.pointer p, .int .i64 v] w fun e w' => e = .returned (.tuple #[.int .i64 0, .int .i64 1]) ∧ w = w' := by
  rcases h with rfl | ⟨zb, rfl, z⟩
  · go_enter Try.func11, Try.ntmps11
    go_wp2
    go_ret2
    exact ⟨rfl, rfl⟩
  · have c0 := z.made
    clear z
    go_enter Try.func11, Try.ntmps11
    go_wp2
    go_ret2
    exact ⟨rfl, rfl⟩

set_option maxHeartbeats 400000 in
theorem find_n (p : Option Addr) (h : Int) (w : World) (hn : IsNone w p) : Calls Try.prog 29 #[.pointer p, .int .i64 h] w fun e w' => (∃ k : Int, e = .returned (.tuple #[.int .i64 k, .bool false])) ∧ w = w' := by
  rcases hn with rfl | ⟨zb, rfl, z⟩
  · go_enter Try.func29, Try.ntmps29
    go_wp2
    go_ret2
    exact ⟨⟨_, rfl⟩, rfl⟩
  · have c1 := z.slots
    clear z
    by_cases h0 : h < 4096
    · go_enter Try.func29, Try.ntmps29
      go_wp2
      go_ret2
      exact ⟨⟨_, rfl⟩, rfl⟩
    · have h1 : 0 ≤ h % 4096 := by omega
      go_enter Try.func29, Try.ntmps29
      go_wp2
      go_ret2
      exact ⟨⟨_, rfl⟩, rfl⟩

set_option maxHeartbeats 400000 in
theorem get_n (p : Option Addr) (h : Int) (w : World) (hn : IsNone w p) : Calls Try.prog 16 #[.pointer p, .int .i64 h] w fun e w' => e = .returned (.tuple #[.int .i64 0, .bool false]) ∧ w = w' := by
  have HC := Lib.hid (find_n p h w hn)
  clear hn
  go_enter Try.func16, Try.ntmps16
  go_wp2_with (go_at_call 29; refine HC.out.mono ?_; rintro e w' ⟨⟨k, rfl⟩, rfl⟩)
  go_ret2
  exact ⟨rfl, rfl⟩

set_option maxHeartbeats 400000 in
theorem free_n (p : Option Addr) (h : Int) (w : World) (hn : IsNone w p) : Calls Try.prog 12 #[.pointer p, .int .i64 h] w fun e w' => e = .returned (.int .i64 1) ∧ w = w' := by
  rcases hn with rfl | ⟨zb, rfl, z⟩
  · go_enter Try.func12, Try.ntmps12
    go_wp2
    go_ret
    exact ⟨rfl, rfl⟩
  · have c0 := z.made
    clear z
    go_enter Try.func12, Try.ntmps12
    go_wp2
    go_ret
    exact ⟨rfl, rfl⟩

set_option maxHeartbeats 400000 in
theorem len_n (p : Option Addr) (w : World) (hn : IsNone w p) : Calls Try.prog 13 #[.pointer p] w fun e w' => e = .returned (.int .i64 0) ∧ w = w' := by
  rcases hn with rfl | ⟨zb, rfl, z⟩
  · go_enter Try.func13, Try.ntmps13
    go_wp2
    go_ret
    exact ⟨rfl, rfl⟩
  · exact len_c zb 0 w z.taken

set_option maxHeartbeats 400000 in
theorem room_n (p : Option Addr) (w : World) (hn : IsNone w p) : Calls Try.prog 14 #[.pointer p] w fun e w' => e = .returned (.int .i64 0) ∧ Kept (fun _ => False) w w' := by
  rcases hn with rfl | ⟨zb, rfl, z⟩
  · go_enter Try.func14, Try.ntmps14
    go_wp2
    go_ret
    exact ⟨rfl, Kept.refl _ _⟩
  · have c1 := z.slots
    have c4 := z.taken
    have c5 := z.lost
    clear z
    go_enter Try.func14, Try.ntmps14
    go_wp2
    go_quiet (fail)
    go_wp2
    go_ret
    exact ⟨rfl, (Kept.refl _ w).drewN nq⟩

set_option maxHeartbeats 400000 in
theorem copy_n (p : Option Addr) (w : World) (hn : IsNone w p) : Calls Try.prog 19 #[.pointer p] w fun e w' => e = .returned (.pointer none) ∧ w = w' := by
  rcases hn with rfl | ⟨zb, rfl, z⟩
  · go_enter Try.func19, Try.ntmps19
    go_wp2
    go_ret
    exact ⟨rfl, rfl⟩
  · have c0 := z.made
    clear z
    go_enter Try.func19, Try.ntmps19
    go_wp2
    go_ret
    exact ⟨rfl, rfl⟩

set_option maxRecDepth 100000 in
set_option maxHeartbeats 1000000 in
theorem live_zero (n : Nat) (hn : 3 ≤ n) (zb : Nat) (w : World) (z : IsZero w zb) :
    CallsIn Fence.wide n Try.prog 17 #[.pointer (some ⟨zb, 0, none⟩)] w fun e w' => e = .returned (.slice none 0 0) ∧ Kept (fun _ => False) w w' := by
  have h1 : 1 ≤ n := by omega
  refine callsIn_of_wp_marks Try.func17 rfl trivial ?_ rfl
  simp only [Try.ntmps17, List.size_toArray, List.length_cons, List.length_nil, Nat.reduceAdd, Nat.reduceSub, Array.replicate_succ, Array.replicate_zero, List.push_toArray, List.append_toArray, List.nil_append, List.cons_append]
  gi_wp2_with (refine ⟨trivial, ?_⟩; gi_at_call 30; refine (live_in Fence.wide (n - 1) trivial rfl _ _).mono ?_; rintro e w' ⟨rfl, rfl⟩)
  have bO := Boxed.new (w.alloc (.cells #[.pointer (some ⟨zb, 0, none⟩)] 22)) 26 (.slice none 0 0)
  have bN := Boxed.new ((w.alloc (.cells #[.pointer (some ⟨zb, 0, none⟩)] 22)).alloc (.cells #[.slice none 0 0] 26)) 22 (.pointer (some ⟨zb, 0, none⟩))
  rw [World.size_alloc] at bO bN
  rw [World.size_alloc] at bN
  have K0 : Kept (fun _ => False) w (((w.alloc (.cells #[.pointer (some ⟨zb, 0, none⟩)] 22)).alloc (.cells #[.slice none 0 0] 26)).alloc (.cells #[.pointer (some ⟨zb, 0, none⟩)] 22)) := (((Kept.refl _ w).alloc _).alloc _).alloc _
  have z0 := z.kept K0
  refine wpIn_rangeFunc_ownG rfl h1 (gf := 42) (lb := #[.pointer (some ⟨w.heap.size + 1 + 1, 0, none⟩)]) rfl trivial (enters_of Try.func42 (by kernel_rfl) rfl)
    (α := Int) (encs := fun x => #[.int .i64 x]) (Kp := fun _ _ => True) (S := fun xs => xs = []) (Sp := fun _ => False) (N := 0) (w0 := ((w.alloc (.cells #[.pointer (some ⟨zb, 0, none⟩)] 22)).alloc (.cells #[.slice none 0 0] 26)).alloc (.cells #[.pointer (some ⟨zb, 0, none⟩)] 22)) ?seq
    (fun _ _ => trivial) (fun _ _ _ _ _ _ _ _ => trivial) (Below.refl _ _) (fun _ => rfl)
    (fun _ W => Boxed W (w.heap.size + 1) 26 (.slice none 0 0) ∧ Kept (fun _ => False) w W)
    (fun _ _ _ => False)
    (ownFrom_of ?own) (fun _ _ _ _ _ hs _ _ => hs)
    ⟨bO.alloc _, K0⟩
    (fun x => { tmps := #[.pointer (some ⟨zb, 0, none⟩), .pointer (some ⟨w.heap.size, 0, none⟩), .slice none 0 0, .pointer (some ⟨w.heap.size + 1, 0, none⟩), .int .i64 x, .pointer (some ⟨zb, 0, none⟩), .bool false, .pointer (some ⟨zb, 0, none⟩), .func (.func 42) #[] #[.pointer (some ⟨w.heap.size + 1 + 1, 0, none⟩)], .int .i64 x, undef, undef, undef, undef, undef, undef, undef], defers := [] }) ?assign ?body ?done ?stop
  case seq =>
    intro l J Jx W hW _ _ _ h0
    have K : Kept (fun _ => False) (((w.alloc (.cells #[.pointer (some ⟨zb, 0, none⟩)] 22)).alloc (.cells #[.slice none 0 0] 26)).alloc (.cells #[.pointer (some ⟨zb, 0, none⟩)] 22)) W := ⟨hW.os, hW.tape, hW.output, hW.size, fun k hk _ => hW.block k hk⟩
    have hBn : W.cell? ⟨w.heap.size + 1 + 1, 0, none⟩ = some (.pointer (some ⟨zb, 0, none⟩)) := (K.cell (a := ⟨w.heap.size + 1 + 1, 0, none⟩) (by simp) (fun h => h)).trans bN.cell
    have c1 := (z0.kept K).slots
    clear K hW bO bN K0 z0
    refine callsIn_of_wp Try.func42 rfl trivial ?_ rfl
    simp only [Try.ntmps42, List.size_toArray, List.length_cons, List.length_nil, Nat.reduceAdd, Nat.reduceSub, Array.replicate_succ, Array.replicate_zero, List.push_toArray, List.append_toArray, List.nil_append, List.cons_append]
    gi_wp2
    gi_loopw [9] (fun p wr => p = .int .i64 0 ∧ wr = W) (fun _ _ => 0)
    case atStart => exact ⟨rfl, rfl⟩
    case round =>
      obtain ⟨rfl, rfl⟩ := hrel
      gi_wp2
      go_end0
      exact ⟨⟨_, rfl⟩, .inl ⟨[], rfl, h0⟩⟩
  case own =>
    rintro s W W' ⟨hv, hk⟩ K
    exact ⟨boxed_keptS hv K (boxed_cells hv), hk.trans K (fun i hi' h => by have := h.1; simp at this; omega)⟩
  case assign =>
    intro l x W K hK
    gi_wp2
    exact hK
  case body =>
    rintro l pre x W _ hlt
    exact absurd hlt (Nat.not_lt_zero _)
  case done =>
    rintro D ys W hD hys ⟨hv, hk⟩ hK
    have hcO := hv.cell
    gi_wp2
    refine ⟨by simp, .inl ⟨_, _, rfl, run_takeDeferred hK, ?_⟩⟩
    refine ⟨_, results_tmp rfl _ _ _, rfl, ?_⟩
    exact hk.trans (kept_putObj (S := fun b => b = D) W D _ (fun _ => rfl)) (fun i hi h => by simp at hD; omega)
  case stop =>
    rintro D c pre W _ _ h _
    exact h.elim

set_option maxHeartbeats 400000 in
theorem live_n (p : Option Addr) (w : World) (hn : IsNone w p) : Calls Try.prog 17 #[.pointer p] w fun e w' => e = .returned (.slice none 0 0) ∧ Kept (fun _ => False) w w' := by
  rcases hn with rfl | ⟨zb, rfl, z⟩
  · go_enter Try.func17, Try.ntmps17
    go_wp2
    go_ret
    exact ⟨rfl, (Kept.refl _ w).alloc _⟩
  · exact callsIn_wide.1 (live_zero 3 (by omega) zb w z)
end Go.Proofs.Ytokmjjjedljcpaa
